/- What the claim leans on, text 5. -/
import Derived.Test.YtadkjjnnnkfalaaC4
set_option linter.unusedSimpArgs false
set_option linter.unusedVariables false

/- Part Lp. -/
namespace Go.Oc.Lv
end Go.Oc.Lv
namespace Go.Proofs.Ytadkjjnnnkfalaa.Lv
end Go.Proofs.Ytadkjjnnnkfalaa.Lv
namespace Go.Oc.Lv
open Go Go.Pm

structure Vial where
  marks : Int
  l0 : Int
  l1 : Int
  v0 : Int
  v1 : Int
  z0 : Int
  z1 : Int
  wr : Int
  deriving DecidableEq
def Vial.cs (v : Vial) : List TV := [.int .i64 v.marks, .int .i64 v.l0, .int .i64 v.l1, .int .i64 v.v0, .int .i64 v.v1, .int .i64 v.z0, .int .i64 v.z1, .int .i64 v.wr]
def Vial.t (v : Vial) : TV := .agg v.cs
def Vial.ok (v : Vial) : Bool := inB v.marks 10 200 && spannedB ⟨v.l0, v.l1⟩ 1 v.marks && spannedB ⟨v.v0, v.v1⟩ 1 500 && spannedB ⟨v.z0, v.z1⟩ 0 (2 * v.marks) && inB v.wr 0 8
theorem Vial.ok_iff {v : Vial} : v.ok = true ↔ (10 ≤ v.marks ∧ v.marks ≤ 200) ∧ (1 ≤ v.l0 ∧ v.l0 ≤ v.l1 ∧ v.l1 ≤ v.marks) ∧ (1 ≤ v.v0 ∧ v.v0 ≤ v.v1 ∧ v.v1 ≤ 500) ∧ (0 ≤ v.z0 ∧ v.z0 ≤ v.z1 ∧ v.z1 ≤ 2 * v.marks) ∧ 0 ≤ v.wr ∧ v.wr ≤ 8 := by
  simp only [Vial.ok, inB, spannedB, Bool.and_eq_true, decide_eq_true_eq]
  constructor
  · rintro ⟨⟨⟨⟨a, b, c⟩, d, e⟩, f, g⟩, h⟩; simp_all
  · rintro ⟨a, b, c, d, e⟩; simp_all

structure Rd where
  left : Int
  right : Int
  turned : Bool
  deriving DecidableEq
def Rd.cs (r : Rd) : List TV := [.int .i64 r.left, .int .i64 r.right, .bool r.turned]
def unRds : List TV → Option (List Rd)
  | [] => some []
  | .int .i64 a :: .int .i64 b :: .bool c :: r => (unRds r).map (⟨a, b, c⟩ :: ·)
  | _ => none
theorem unRds_eq : ∀ l : List Rd, unRds (l.flatMap Rd.cs) = some l
  | [] => rfl
  | x :: l => by simp [Rd.cs, unRds, unRds_eq l]
theorem unRds_some : ∀ {cs : List TV} {l : List Rd}, unRds cs = some l → cs = l.flatMap Rd.cs := by
  intro cs
  induction cs using unRds.induct with
  | case1 => intro l h; simp [unRds] at h; subst h; rfl
  | case2 a b c r ih =>
    intro l h
    simp only [unRds, Option.map_eq_some_iff] at h
    obtain ⟨l', h1, rfl⟩ := h
    rw [ih h1]; rfl
  | case3 r h1 h2 =>
    intro l h
    unfold unRds at h
    split at h
    · exact absurd rfl h1
    · exact absurd rfl (h2 _ _ _ _)
    · cases h
attribute [go_sem] unRds_eq

structure Mk where
  at' : Int
  tu : Bool
  deriving DecidableEq
def Mk.cs (m : Mk) : List TV := [.int .i64 m.at', .bool m.tu]
def unMks : List TV → Option (List Mk)
  | [] => some []
  | .int .i64 a :: .bool c :: r => (unMks r).map (⟨a, c⟩ :: ·)
  | _ => none
theorem unMks_eq : ∀ l : List Mk, unMks (l.flatMap Mk.cs) = some l
  | [] => rfl
  | x :: l => by simp [Mk.cs, unMks, unMks_eq l]
theorem unMks_some : ∀ {cs : List TV} {l : List Mk}, unMks cs = some l → cs = l.flatMap Mk.cs := by
  intro cs
  induction cs using unMks.induct with
  | case1 => intro l h; simp [unMks] at h; subst h; rfl
  | case2 a c r ih =>
    intro l h
    simp only [unMks, Option.map_eq_some_iff] at h
    obtain ⟨l', h1, rfl⟩ := h
    rw [ih h1]; rfl
  | case3 r h1 h2 =>
    intro l h
    unfold unMks at h
    split at h
    · exact absurd rfl h1
    · exact absurd rfl (h2 _ _ _)
    · cases h
attribute [go_sem] unMks_eq

/-- Is a reading one of a valid vial? -/
def rdOk (v : Vial) (x : Rd) : Bool := inB x.left 0 v.marks && inB x.right (x.left + 1) v.marks && inB (x.right - x.left) (v.l0 - v.wr) (v.l1 + v.wr)
def rdsOk (v : Vial) (l : List Rd) : Bool := inB l.length 1 8 && l.all (rdOk v)
def mid (r : Rd) : Mk := ⟨r.left + r.right, r.turned⟩
/-- The error of a vial and readings. -/
def asked (v : Vial) (l : List Rd) : Int := if v.ok = false then 30 else if rdsOk v l = false then 31 else 0
def mksOk (l : List Mk) : Bool := l.all fun m => inB m.at' 0 400
theorem mksOk_mid {v : Vial} {l : List Rd} (hv : v.ok = true) (h : rdsOk v l = true) : mksOk (l.map mid) = true := by
  simp only [rdsOk, mksOk, Bool.and_eq_true, List.all_eq_true, List.mem_map, forall_exists_index, and_imp, forall_apply_eq_imp_iff₂] at h ⊢
  intro r hr
  have := h.2 r hr
  have hm := (Vial.ok_iff.1 hv).1
  simp only [rdOk, inB, Bool.and_eq_true, decide_eq_true_eq] at this
  show inB (r.left + r.right) 0 400 = true
  rw [inB_iff]; omega

/-- How many half marks a middle is out, with a zero. -/
def outM (m : Mk) (z : Int) : Int := if m.tu then z - m.at' else m.at' - z
def inS (w z : Int) (s : Span) (m : Mk) : Span := ⟨max s.lo (outM m z - w), min s.hi (outM m z + w)⟩
/-- Between how many half marks the tilt is, by middles, with a zero. -/
def withinS (w : Int) (l : List Mk) (z : Int) : Span := l.foldl (inS w z) ⟨-10000, 10000⟩
theorem withinS_bound {w z : Int} (hw : 0 ≤ w ∧ w ≤ 8) (hz : 0 ≤ z ∧ z ≤ 400) : ∀ {l : List Mk} {s : Span}, mksOk l = true → (-10000 ≤ s.lo ∧ s.lo ≤ 10000 ∧ -10000 ≤ s.hi ∧ s.hi ≤ 10000) →
    -10000 ≤ (l.foldl (inS w z) s).lo ∧ (l.foldl (inS w z) s).lo ≤ 10000 ∧ -10000 ≤ (l.foldl (inS w z) s).hi ∧ (l.foldl (inS w z) s).hi ≤ 10000
  | [], _, _, h => h
  | m :: l, s, h, hs => by
    simp only [mksOk, List.all_cons, Bool.and_eq_true, inB, decide_eq_true_eq] at h
    refine withinS_bound hw hz (l := l) h.2 ?_
    simp only [inS, outM]
    split <;> omega

/-- Ends of products. -/
def leastP (v : Vial) (lo : Int) : Int := min (lo * v.v0) (lo * v.v1)
def mostP (v : Vial) (hi : Int) : Int := max (hi * v.v0) (hi * v.v1)
/-- The zeros of a list that can be, each with what the tilt is then, in half marks. -/
def zerosOf (v : Vial) (l : List Mk) (zs : List Int) : List (Int × Span) := zs.filterMap fun z => let s := withinS v.wr l z; if s.lo ≤ s.hi then some (z, s) else none
def range (a : Int) (n : Nat) : List Int := (List.range n).map fun (k : Nat) => a + (k : Int)
def allZ (v : Vial) : List Int := range v.z0 (v.z1 - v.z0 + 1).toNat
/-- The tilt, the zero, and whether there is one. -/
structure TZ where
  tilt : Span
  zero : Span
  is : Bool
  deriving DecidableEq
def TZ.t (x : TZ) : TV := .tup [x.tilt.t, x.zero.t, .bool x.is]
def tiltStep (v : Vial) (x : TZ) (y : Int × Span) : TZ :=
  if x.is then ⟨⟨min x.tilt.lo (leastP v y.2.lo), max x.tilt.hi (mostP v y.2.hi)⟩, ⟨x.zero.lo, y.1⟩, true⟩
  else ⟨⟨leastP v y.2.lo, mostP v y.2.hi⟩, ⟨y.1, y.1⟩, true⟩
def tiltsOf (v : Vial) (xs : List (Int × Span)) : TZ := xs.foldl (tiltStep v) ⟨⟨0, 0⟩, ⟨0, 0⟩, false⟩
def tilts (v : Vial) (l : List Mk) : TZ := tiltsOf v (zerosOf v l (allZ v))

theorem range_succ (a : Int) (n : Nat) : range a (n + 1) = range a n ++ [a + n] := by simp [range, List.range_succ]
def foundZ (v : Vial) (l : List Mk) (z : Int) : List (Int × Span) := if (withinS v.wr l z).lo ≤ (withinS v.wr l z).hi then [(z, withinS v.wr l z)] else []
theorem zerosOf_snoc (v : Vial) (l : List Mk) (zs : List Int) (z : Int) : zerosOf v l (zs ++ [z]) = zerosOf v l zs ++ foundZ v l z := by
  unfold zerosOf foundZ
  rw [List.filterMap_append]
  congr 1
  simp only [List.filterMap_cons, List.filterMap_nil]
  split <;> rename_i h <;> split at h <;> simp_all
/-- The tilt after so many zeros. -/
def tiltsTo (v : Vial) (l : List Mk) (k : Nat) : TZ := tiltsOf v (zerosOf v l (range v.z0 k))
theorem tiltsTo_zero (v : Vial) (l : List Mk) : tiltsTo v l 0 = ⟨⟨0, 0⟩, ⟨0, 0⟩, false⟩ := rfl
theorem tiltsTo_out {v : Vial} {l : List Mk} {k : Nat} (h : ¬ (withinS v.wr l (v.z0 + k)).lo ≤ (withinS v.wr l (v.z0 + k)).hi) : tiltsTo v l (k + 1) = tiltsTo v l k := by
  unfold tiltsTo
  rw [range_succ, zerosOf_snoc, foundZ, if_neg h, List.append_nil]
theorem tiltsTo_in {v : Vial} {l : List Mk} {k : Nat} (h : (withinS v.wr l (v.z0 + k)).lo ≤ (withinS v.wr l (v.z0 + k)).hi) : tiltsTo v l (k + 1) = tiltStep v (tiltsTo v l k) (v.z0 + k, withinS v.wr l (v.z0 + k)) := by
  unfold tiltsTo
  rw [range_succ, zerosOf_snoc, foundZ, if_pos h]
  unfold tiltsOf
  rw [List.foldl_append]; rfl
theorem tiltsTo_low {v : Vial} {l : List Mk} : ∀ {k : Nat}, (tiltsTo v l k).is = true → (tiltsTo v l k).zero.lo ≤ v.z0 + k ∧ (tiltsTo v l k).zero.hi ≤ v.z0 + k ∧ v.z0 ≤ (tiltsTo v l k).zero.lo ∧ (tiltsTo v l k).zero.lo ≤ (tiltsTo v l k).zero.hi
  | 0, h => by rw [tiltsTo_zero] at h; cases h
  | k + 1, h => by
    by_cases hin : (withinS v.wr l (v.z0 + k)).lo ≤ (withinS v.wr l (v.z0 + k)).hi
    · rw [tiltsTo_in hin]
      unfold tiltStep
      split
      · rename_i hi; have := tiltsTo_low hi; simp only; omega
      · simp only; omega
    · rw [tiltsTo_out hin] at h ⊢
      have := tiltsTo_low h; omega
theorem mulB {a b : Int} (ha : -10000 ≤ a ∧ a ≤ 10000) (hb : 0 ≤ b ∧ b ≤ 500) : -5000000 ≤ a * b ∧ a * b ≤ 5000000 := by
  have h1 := Int.mul_le_mul_of_nonneg_right ha.1 hb.1
  have h2 := Int.mul_le_mul_of_nonneg_right ha.2 hb.1
  omega
theorem least_most {v : Vial} (hv : v.ok = true) {lo hi : Int} (h : lo ≤ hi) : leastP v lo ≤ mostP v hi := by
  have hv' := Vial.ok_iff.1 hv
  have := Int.mul_le_mul_of_nonneg_right (c := v.v0) h (by omega)
  unfold leastP mostP; omega
theorem rdsOk_len {v : Vial} {l : List Rd} (h : rdsOk v l = true) : 1 ≤ l.length ∧ l.length ≤ 8 := by
  simp only [rdsOk, inB, Bool.and_eq_true, decide_eq_true_eq] at h; omega
theorem asked_zero {v : Vial} {l : List Rd} (h : asked v l = 0) : v.ok = true ∧ rdsOk v l = true := by
  unfold asked at h
  cases hv : v.ok <;> cases hr : rdsOk v l <;> simp [hv, hr] at h ⊢
/-- What Tilt hands back. -/
structure TE where
  tilt : Span
  zero : Span
  e : Int
  deriving DecidableEq
def TE.t (x : TE) : TV := .tup [x.tilt.t, x.zero.t, .int .i64 x.e]
def tiltR (v : Vial) (l : List Rd) : TE :=
  if asked v l = 0 then (if (tilts v (l.map mid)).is then ⟨(tilts v (l.map mid)).tilt, (tilts v (l.map mid)).zero, 0⟩ else ⟨⟨0, 0⟩, ⟨0, 0⟩, 33⟩)
  else ⟨⟨0, 0⟩, ⟨0, 0⟩, asked v l⟩
theorem tilts_to (v : Vial) (l : List Mk) : tilts v l = tiltsTo v l (v.z1 - v.z0 + 1).toNat := rfl
end Go.Oc.Lv

/- Part Lu. -/
namespace Go.Oc.Lv
end Go.Oc.Lv
namespace Go.Proofs.Ytadkjjnnnkfalaa.Lv
end Go.Proofs.Ytadkjjnnnkfalaa.Lv
namespace Go.Proofs.Ytadkjjnnnkfalaa.Lv
open Go.RowKit Go.Pm Go.Oc Go.Oc.Lv
set_option maxRecDepth 100000
set_option linter.unusedVariables false
set_option maxHeartbeats 1000000

def Mk.al (m : Mk) : TV := .ifc 220 (.agg [.int .i64 m.at', .fn (if m.tu then 126 else 125) [] []])
def Mk.als (m : Mk) : List TV := [Mk.al m]
def unAls : List TV → Option (List Mk)
  | [] => some []
  | .ifc 220 (.agg [.int .i64 a, .fn 125 [] []]) :: r => (unAls r).map (⟨a, false⟩ :: ·)
  | .ifc 220 (.agg [.int .i64 a, .fn 126 [] []]) :: r => (unAls r).map (⟨a, true⟩ :: ·)
  | _ => none
theorem unAls_eq : ∀ l : List Mk, unAls (l.flatMap Mk.als) = some l
  | [] => rfl
  | ⟨a, tu⟩ :: l => by cases tu <;> simp [Mk.als, Mk.al, unAls, unAls_eq l]
theorem unAls_some : ∀ {cs : List TV} {l : List Mk}, unAls cs = some l → cs = l.flatMap Mk.als := by
  intro cs
  induction cs using unAls.induct with
  | case1 => intro l h; simp [unAls] at h; subst h; rfl
  | case2 a r ih =>
    intro l h
    simp only [unAls, Option.map_eq_some_iff] at h
    obtain ⟨l', h1, rfl⟩ := h
    rw [ih h1]; rfl
  | case3 a r ih =>
    intro l h
    simp only [unAls, Option.map_eq_some_iff] at h
    obtain ⟨l', h1, rfl⟩ := h
    rw [ih h1]; rfl
  | case4 r h1 h2 h3 =>
    intro l h
    unfold unAls at h
    split at h
    · exact absurd rfl h1
    · exact absurd rfl (h2 _ _)
    · exact absurd rfl (h3 _ _)
    · cases h
attribute [go_sem] unAls_eq

theorem lWithin_c (n lo hi : Int) : PCalls Try.prog 71 [.int .i64 n, .int .i64 lo, .int .i64 hi] (.bool (inB n lo hi)) := by
  refine pcalls_by Try.mixes noSpec_ok (fn := Try.f71) Try.func71 rfl (by kernel_rfl) (by show 3 ≤ _; decide) ?_
  simp (decide := true) (maxSteps := 4000000) only [go_sem, Nat.reduceAdd, Nat.reduceSub, Nat.reduceMul, Nat.reduceDiv, Nat.reduceMod, Nat.reduceLT, Nat.reduceLeDiff, Nat.reduceEqDiff, Nat.reduceBEq, Nat.reduceBNe, Nat.reduceGT, Int.reduceAdd, Int.reduceSub, Int.reduceMul, Int.reduceNeg, Int.reduceLT, Int.reduceLE, Int.reduceEq, Int.reduceNe, Int.reduceBEq, Int.reduceBNe, Int.reduceToNat, Int.reduceGT, Int.reduceGE, ↓reduceIte, decide_true, decide_false, Try.f71, inB]
theorem lSpanned_c (s : Span) (lo hi : Int) : PCalls Try.prog 75 [s.t, .int .i64 lo, .int .i64 hi] (.bool (spannedB s lo hi)) := by
  refine pcalls_by Try.mixes noSpec_ok (fn := Try.f75) Try.func75 rfl (by kernel_rfl) (by show 3 ≤ _; decide) ?_
  simp (decide := true) (maxSteps := 4000000) only [go_sem, Nat.reduceAdd, Nat.reduceSub, Nat.reduceMul, Nat.reduceDiv, Nat.reduceMod, Nat.reduceLT, Nat.reduceLeDiff, Nat.reduceEqDiff, Nat.reduceBEq, Nat.reduceBNe, Nat.reduceGT, Int.reduceAdd, Int.reduceSub, Int.reduceMul, Int.reduceNeg, Int.reduceLT, Int.reduceLE, Int.reduceEq, Int.reduceNe, Int.reduceBEq, Int.reduceBNe, Int.reduceToNat, Int.reduceGT, Int.reduceGE, ↓reduceIte, decide_true, decide_false, Try.f75, Span.t, Span.cs, spannedB]
theorem lMarked1_c (m z : Int) : PCalls Try.prog 125 [.int .i64 m, .int .i64 z] (.int .i64 (IntKind.i64.wrap (m - z))) := by
  refine pcalls_by Try.mixes noSpec_ok (fn := Try.f125) Try.func125 rfl (by kernel_rfl) (by show 2 ≤ _; decide) ?_
  simp (decide := true) (maxSteps := 4000000) only [go_sem, Nat.reduceAdd, Nat.reduceSub, Nat.reduceMul, Nat.reduceDiv, Nat.reduceMod, Nat.reduceLT, Nat.reduceLeDiff, Nat.reduceEqDiff, Nat.reduceBEq, Nat.reduceBNe, Nat.reduceGT, Int.reduceAdd, Int.reduceSub, Int.reduceMul, Int.reduceNeg, Int.reduceLT, Int.reduceLE, Int.reduceEq, Int.reduceNe, Int.reduceBEq, Int.reduceBNe, Int.reduceToNat, Int.reduceGT, Int.reduceGE, ↓reduceIte, decide_true, decide_false, Try.f125]
theorem lMarked2_c (m z : Int) : PCalls Try.prog 126 [.int .i64 m, .int .i64 z] (.int .i64 (IntKind.i64.wrap (z - m))) := by
  refine pcalls_by Try.mixes noSpec_ok (fn := Try.f126) Try.func126 rfl (by kernel_rfl) (by show 2 ≤ _; decide) ?_
  simp (decide := true) (maxSteps := 4000000) only [go_sem, Nat.reduceAdd, Nat.reduceSub, Nat.reduceMul, Nat.reduceDiv, Nat.reduceMod, Nat.reduceLT, Nat.reduceLeDiff, Nat.reduceEqDiff, Nat.reduceBEq, Nat.reduceBNe, Nat.reduceGT, Int.reduceAdd, Int.reduceSub, Int.reduceMul, Int.reduceNeg, Int.reduceLT, Int.reduceLE, Int.reduceEq, Int.reduceNe, Int.reduceBEq, Int.reduceBNe, Int.reduceToNat, Int.reduceGT, Int.reduceGE, ↓reduceIte, decide_true, decide_false, Try.f126]
theorem lMarked_c (m : Int) (tu : Bool) : PCalls Try.prog 109 [.int .i64 m, .bool tu] (.agg [.int .i64 m, .fn (if tu then 126 else 125) [] []]) := by
  refine pcalls_by Try.mixes noSpec_ok (fn := Try.f109) Try.func109 rfl (by kernel_rfl) (by show 2 ≤ _; decide) ?_
  cases tu <;> simp (decide := true) (maxSteps := 4000000) only [go_sem, Nat.reduceAdd, Nat.reduceSub, Nat.reduceMul, Nat.reduceDiv, Nat.reduceMod, Nat.reduceLT, Nat.reduceLeDiff, Nat.reduceEqDiff, Nat.reduceBEq, Nat.reduceBNe, Nat.reduceGT, Int.reduceAdd, Int.reduceSub, Int.reduceMul, Int.reduceNeg, Int.reduceLT, Int.reduceLE, Int.reduceEq, Int.reduceNe, Int.reduceBEq, Int.reduceBNe, Int.reduceToNat, Int.reduceGT, Int.reduceGE, ↓reduceIte, decide_true, decide_false, Try.f109]
noncomputable def glWithin : List TV → Option TV
  | [.int .i64 n, .int .i64 a, .int .i64 b] => some (.bool (inB n a b))
  | _ => none
theorem glWithin_ok : ∀ xs r, glWithin xs = some r → PCalls Try.prog 71 xs r := by
  intro xs r h
  unfold glWithin at h
  split at h
  · cases h; exact lWithin_c _ _ _
  · cases h
attribute [go_sem] glWithin
noncomputable def glSpanned : List TV → Option TV
  | [.agg [.int .i64 x, .int .i64 y], .int .i64 a, .int .i64 b] => some (.bool (spannedB ⟨x, y⟩ a b))
  | _ => none
theorem glSpanned_ok : ∀ xs r, glSpanned xs = some r → PCalls Try.prog 75 xs r := by
  intro xs r h
  unfold glSpanned at h
  split at h
  · cases h; exact lSpanned_c ⟨_, _⟩ _ _
  · cases h
attribute [go_sem] glSpanned
noncomputable def glMarked1 : List TV → Option TV
  | [.int .i64 m, .int .i64 z] => some (.int .i64 (IntKind.i64.wrap (m - z)))
  | _ => none
theorem glMarked1_ok : ∀ xs r, glMarked1 xs = some r → PCalls Try.prog 125 xs r := by
  intro xs r h
  unfold glMarked1 at h
  split at h
  · cases h; exact lMarked1_c _ _
  · cases h
attribute [go_sem] glMarked1
noncomputable def glMarked2 : List TV → Option TV
  | [.int .i64 m, .int .i64 z] => some (.int .i64 (IntKind.i64.wrap (z - m)))
  | _ => none
theorem glMarked2_ok : ∀ xs r, glMarked2 xs = some r → PCalls Try.prog 126 xs r := by
  intro xs r h
  unfold glMarked2 at h
  split at h
  · cases h; exact lMarked2_c _ _
  · cases h
attribute [go_sem] glMarked2
noncomputable def glMarked : List TV → Option TV
  | [.int .i64 m, .bool tu] => some (.agg [.int .i64 m, .fn (if tu then 126 else 125) [] []])
  | _ => none
theorem glMarked_ok : ∀ xs r, glMarked xs = some r → PCalls Try.prog 109 xs r := by
  intro xs r h
  unfold glMarked at h
  split at h
  · cases h; exact lMarked_c _ _
  · cases h
attribute [go_sem] glMarked
noncomputable def spL1 : Pm.Spec := ((((noSpec.one 71 glWithin).one 75 glSpanned).one 125 glMarked1).one 126 glMarked2).one 109 glMarked
@[go_sem] theorem spL1_p (f : FuncId) (xs : List TV) : spL1.p f xs = Pm.Spec.p (((((noSpec.one 71 glWithin).one 75 glSpanned).one 125 glMarked1).one 126 glMarked2).one 109 glMarked) f xs := rfl
@[go_sem] theorem spL1_h (f : FuncId) (ps : List PV) (hl : List PO) : spL1.h f ps hl = Pm.Spec.h (((((noSpec.one 71 glWithin).one 75 glSpanned).one 125 glMarked1).one 126 glMarked2).one 109 glMarked) f ps hl := rfl
@[go_sem] theorem spL1_y (Y : Pm.YS) (f : FuncId) (ps : List PV) (hl : List PO) : spL1.y Y f ps hl = Pm.Spec.y (((((noSpec.one 71 glWithin).one 75 glSpanned).one 125 glMarked1).one 126 glMarked2).one 109 glMarked) Y f ps hl := rfl
@[go_sem] theorem spL1_fz (f : FuncId) : spL1.fz f = Pm.Spec.fz (((((noSpec.one 71 glWithin).one 75 glSpanned).one 125 glMarked1).one 126 glMarked2).one 109 glMarked) f := rfl
@[go_sem] theorem spL1_fr (f : FuncId) : spL1.fr f = Pm.Spec.fr (((((noSpec.one 71 glWithin).one 75 glSpanned).one 125 glMarked1).one 126 glMarked2).one 109 glMarked) f := rfl
@[go_sem] theorem spL1_yf (f : FuncId) : spL1.yf f = Pm.Spec.yf (((((noSpec.one 71 glWithin).one 75 glSpanned).one 125 glMarked1).one 126 glMarked2).one 109 glMarked) f := rfl
@[go_sem] theorem spL1_mu (t : TypeId) : spL1.mu t = Pm.Spec.mu (((((noSpec.one 71 glWithin).one 75 glSpanned).one 125 glMarked1).one 126 glMarked2).one 109 glMarked) t := rfl
@[go_sem] theorem spL1_nf (t : TypeId) : spL1.nf t = Pm.Spec.nf (((((noSpec.one 71 glWithin).one 75 glSpanned).one 125 glMarked1).one 126 glMarked2).one 109 glMarked) t := rfl
theorem spL1_ok : SpecOk Try.prog spL1 := Spec.one_ok glMarked_ok (Spec.one_ok glMarked2_ok (Spec.one_ok glMarked1_ok (Spec.one_ok glSpanned_ok (Spec.one_ok glWithin_ok noSpec_ok))))
theorem lBounds_c (m : Mk) (z w : Int) (hm : inB m.at' 0 400 = true) (hz : 0 ≤ z ∧ z ≤ 400) (hw : 0 ≤ w ∧ w ≤ 8) : PCalls Try.prog 152 [.agg [.int .i64 m.at', .fn (if m.tu then 126 else 125) [] []], .int .i64 z, .int .i64 w] (.agg [.int .i64 (outM m z - w), .int .i64 (outM m z + w)]) := by
  refine pcalls_by Try.mixes spL1_ok (fn := Try.f152) Try.func152 rfl (by kernel_rfl) (by show 3 ≤ _; decide) ?_
  obtain ⟨a, tu⟩ := m
  have hm' := inB_iff.1 hm
  simp only at hm'
  cases tu <;> simp (decide := true) (maxSteps := 4000000) only [go_sem, Nat.reduceAdd, Nat.reduceSub, Nat.reduceMul, Nat.reduceDiv, Nat.reduceMod, Nat.reduceLT, Nat.reduceLeDiff, Nat.reduceEqDiff, Nat.reduceBEq, Nat.reduceBNe, Nat.reduceGT, Int.reduceAdd, Int.reduceSub, Int.reduceMul, Int.reduceNeg, Int.reduceLT, Int.reduceLE, Int.reduceEq, Int.reduceNe, Int.reduceBEq, Int.reduceBNe, Int.reduceToNat, Int.reduceGT, Int.reduceGE, ↓reduceIte, decide_true, decide_false, Try.f152, outM]
  all_goals simp (disch := omega) only [wrap_in, and_self, true_and, and_true]

theorem lCheck_c (v : Vial) : PCalls Try.prog 108 [v.t] (.int .i64 (if v.ok then 0 else 30)) := by
  refine pcalls_by Try.mixes spL1_ok (fn := Try.f108) Try.func108 rfl (by kernel_rfl) (by show 1 ≤ _; decide) ?_
  simp (decide := true) (maxSteps := 4000000) only [go_sem, Nat.reduceAdd, Nat.reduceSub, Nat.reduceMul, Nat.reduceDiv, Nat.reduceMod, Nat.reduceLT, Nat.reduceLeDiff, Nat.reduceEqDiff, Nat.reduceBEq, Nat.reduceBNe, Nat.reduceGT, Int.reduceAdd, Int.reduceSub, Int.reduceMul, Int.reduceNeg, Int.reduceLT, Int.reduceLE, Int.reduceEq, Int.reduceNe, Int.reduceBEq, Int.reduceBNe, Int.reduceToNat, Int.reduceGT, Int.reduceGE, ↓reduceIte, decide_true, decide_false, Try.f108, Vial.t, Vial.cs]
  cases h1 : inB v.marks 10 200 with
  | false => simp (decide := true) (maxSteps := 4000000) only [go_sem, Nat.reduceAdd, Nat.reduceSub, Nat.reduceMul, Nat.reduceDiv, Nat.reduceMod, Nat.reduceLT, Nat.reduceLeDiff, Nat.reduceEqDiff, Nat.reduceBEq, Nat.reduceBNe, Nat.reduceGT, Int.reduceAdd, Int.reduceSub, Int.reduceMul, Int.reduceNeg, Int.reduceLT, Int.reduceLE, Int.reduceEq, Int.reduceNe, Int.reduceBEq, Int.reduceBNe, Int.reduceToNat, Int.reduceGT, Int.reduceGE, ↓reduceIte, decide_true, decide_false, h1, Vial.ok]
  | true =>
    have h1' := inB_iff.1 h1
    have e : IntKind.i64.wrap (2 * v.marks) = 2 * v.marks := wrap_in (by omega) (by omega)
    cases h2 : spannedB ⟨v.l0, v.l1⟩ 1 v.marks <;> cases h3 : spannedB ⟨v.v0, v.v1⟩ 1 500 <;> cases h4 : spannedB ⟨v.z0, v.z1⟩ 0 (2 * v.marks) <;> cases h5 : inB v.wr 0 8 <;> simp (decide := true) (maxSteps := 4000000) only [go_sem, Nat.reduceAdd, Nat.reduceSub, Nat.reduceMul, Nat.reduceDiv, Nat.reduceMod, Nat.reduceLT, Nat.reduceLeDiff, Nat.reduceEqDiff, Nat.reduceBEq, Nat.reduceBNe, Nat.reduceGT, Int.reduceAdd, Int.reduceSub, Int.reduceMul, Int.reduceNeg, Int.reduceLT, Int.reduceLE, Int.reduceEq, Int.reduceNe, Int.reduceBEq, Int.reduceBNe, Int.reduceToNat, Int.reduceGT, Int.reduceGE, ↓reduceIte, decide_true, decide_false, h1, h2, h3, h4, h5, e, Vial.ok]
noncomputable def glCheck : List TV → Option TV
  | [.agg [.int .i64 m, .int .i64 a, .int .i64 b, .int .i64 c, .int .i64 d, .int .i64 e, .int .i64 f, .int .i64 g]] => some (.int .i64 (if Vial.ok ⟨m, a, b, c, d, e, f, g⟩ then 0 else 30))
  | _ => none
theorem glCheck_ok : ∀ xs r, glCheck xs = some r → PCalls Try.prog 108 xs r := by
  intro xs r h
  unfold glCheck at h
  split at h
  · cases h; exact lCheck_c ⟨_, _, _, _, _, _, _, _⟩
  · cases h
attribute [go_sem] glCheck
noncomputable def glBounds (xs : List TV) : Option TV := match xs with
  | [.agg [.int .i64 m, .fn 125 [] []], .int .i64 z, .int .i64 w] => if inB m 0 400 = true ∧ (0 ≤ z ∧ z ≤ 400) ∧ (0 ≤ w ∧ w ≤ 8) then some (.agg [.int .i64 (m - z - w), .int .i64 (m - z + w)]) else none
  | [.agg [.int .i64 m, .fn 126 [] []], .int .i64 z, .int .i64 w] => if inB m 0 400 = true ∧ (0 ≤ z ∧ z ≤ 400) ∧ (0 ≤ w ∧ w ≤ 8) then some (.agg [.int .i64 (z - m - w), .int .i64 (z - m + w)]) else none
  | _ => none
theorem glBounds_ok : ∀ xs r, glBounds xs = some r → PCalls Try.prog 152 xs r := by
  intro xs r h
  unfold glBounds at h
  split at h
  · split at h
    · rename_i hc; cases h; exact lBounds_c ⟨_, false⟩ _ _ hc.1 hc.2.1 hc.2.2
    · cases h
  · split at h
    · rename_i hc; cases h; exact lBounds_c ⟨_, true⟩ _ _ hc.1 hc.2.1 hc.2.2
    · cases h
  · cases h
attribute [go_sem] glBounds
noncomputable def spL2 : Pm.Spec := (spL1.one 108 glCheck).one 152 glBounds
@[go_sem] theorem spL2_p (f : FuncId) (xs : List TV) : spL2.p f xs = Pm.Spec.p ((spL1.one 108 glCheck).one 152 glBounds) f xs := rfl
@[go_sem] theorem spL2_h (f : FuncId) (ps : List PV) (hl : List PO) : spL2.h f ps hl = Pm.Spec.h ((spL1.one 108 glCheck).one 152 glBounds) f ps hl := rfl
@[go_sem] theorem spL2_y (Y : Pm.YS) (f : FuncId) (ps : List PV) (hl : List PO) : spL2.y Y f ps hl = Pm.Spec.y ((spL1.one 108 glCheck).one 152 glBounds) Y f ps hl := rfl
@[go_sem] theorem spL2_fz (f : FuncId) : spL2.fz f = Pm.Spec.fz ((spL1.one 108 glCheck).one 152 glBounds) f := rfl
@[go_sem] theorem spL2_fr (f : FuncId) : spL2.fr f = Pm.Spec.fr ((spL1.one 108 glCheck).one 152 glBounds) f := rfl
@[go_sem] theorem spL2_yf (f : FuncId) : spL2.yf f = Pm.Spec.yf ((spL1.one 108 glCheck).one 152 glBounds) f := rfl
@[go_sem] theorem spL2_mu (t : TypeId) : spL2.mu t = Pm.Spec.mu ((spL1.one 108 glCheck).one 152 glBounds) t := rfl
@[go_sem] theorem spL2_nf (t : TypeId) : spL2.nf t = Pm.Spec.nf ((spL1.one 108 glCheck).one 152 glBounds) t := rfl
theorem spL2_ok : SpecOk Try.prog spL2 := Spec.one_ok glBounds_ok (Spec.one_ok glCheck_ok spL1_ok)
end Go.Proofs.Ytadkjjnnnkfalaa.Lv

/- Part Lc. -/
namespace Go.Oc.Lv
end Go.Oc.Lv
namespace Go.Proofs.Ytadkjjnnnkfalaa.Lv
end Go.Proofs.Ytadkjjnnnkfalaa.Lv
namespace Go.Proofs.Ytadkjjnnnkfalaa.Lv
open Go.RowKit Go.Pm Go.Oc Go.Oc.Lv
set_option maxRecDepth 100000
set_option linter.unusedVariables false
set_option maxHeartbeats 1000000

theorem ediv_tdiv {a b : Int} (h : 0 < b) : (if a.tmod b < 0 then a.tdiv b - 1 else a.tdiv b) = a / b := by
  have h1 := Int.mul_tdiv_add_tmod a b
  have h2 := Int.mul_ediv_add_emod a b
  have h3 := Int.emod_nonneg a (show b ≠ 0 by omega)
  have h4 := Int.emod_lt_of_pos a h
  have h5 : -b < a.tmod b ∧ a.tmod b < b := by
    have := Int.tmod_lt_of_pos a h
    have h6 := Int.tmod_lt_of_pos (-a) h
    rw [Int.neg_tmod] at h6
    omega
  by_cases hn : a.tmod b < 0
  · rw [if_pos hn]
    have e : b * (a.tdiv b - 1) + (a.tmod b + b) = a := by rw [Int.mul_sub]; omega
    have := (Int.ediv_emod_unique h (a := a) (r := a.tmod b + b) (q := a.tdiv b - 1)).2 ⟨by omega, by omega, by omega⟩
    exact this.1.symm
  · rw [if_neg hn]
    have := (Int.ediv_emod_unique h (a := a) (r := a.tmod b) (q := a.tdiv b)).2 ⟨by omega, by omega, by omega⟩
    exact this.1.symm
theorem divB {a b : Int} (hb : 0 < b) (ha : -4000000000000000000 ≤ a ∧ a ≤ 4000000000000000000) : -4000000000000000000 ≤ a / b ∧ a / b ≤ 4000000000000000000 := by
  have h1 := Int.ediv_le_self (a := 4000000000000000000) b (by omega)
  have h2 := Int.ediv_le_ediv hb (show a ≤ 4000000000000000000 by omega)
  have h3 := Int.ediv_le_ediv hb (show -4000000000000000000 ≤ a by omega)
  have h4 : -4000000000000000000 ≤ (-4000000000000000000) / b := by
    rw [Int.le_ediv_iff_mul_le hb]
    omega
  omega
theorem lDown_c (a b : Int) (hb : 0 < b) (ha : -4000000000000000000 ≤ a ∧ a ≤ 4000000000000000000) : PCalls Try.prog 77 [.int .i64 a, .int .i64 b] (.int .i64 (a / b)) := by
  refine pcalls_by Try.mixes noSpec_ok (fn := Try.f77) Try.func77 rfl (by kernel_rfl) (by show 2 ≤ _; decide) ?_
  have hne : ¬ b = 0 := by omega
  have hq := ediv_tdiv (a := a) hb
  have hd := divB hb ha
  by_cases hn : a.tmod b < 0
  · rw [if_pos hn] at hq
    have w1 : IntKind.i64.wrap (a.tdiv b) = a.tdiv b := wrap_in (by omega) (by omega)
    have w2 : IntKind.i64.wrap (a.tdiv b - 1) = a / b := by rw [wrap_in (by omega) (by omega)]; exact hq
    simp (decide := true) (maxSteps := 4000000) only [go_sem, Nat.reduceAdd, Nat.reduceSub, Nat.reduceMul, Nat.reduceDiv, Nat.reduceMod, Nat.reduceLT, Nat.reduceLeDiff, Nat.reduceEqDiff, Nat.reduceBEq, Nat.reduceBNe, Nat.reduceGT, Int.reduceAdd, Int.reduceSub, Int.reduceMul, Int.reduceNeg, Int.reduceLT, Int.reduceLE, Int.reduceEq, Int.reduceNe, Int.reduceBEq, Int.reduceBNe, Int.reduceToNat, Int.reduceGT, Int.reduceGE, ↓reduceIte, decide_true, decide_false, Try.f77, hne, hn, w1, w2]
  · rw [if_neg hn] at hq
    have w1 : IntKind.i64.wrap (a.tdiv b) = a / b := by rw [wrap_in (by omega) (by omega)]; exact hq
    simp (decide := true) (maxSteps := 4000000) only [go_sem, Nat.reduceAdd, Nat.reduceSub, Nat.reduceMul, Nat.reduceDiv, Nat.reduceMod, Nat.reduceLT, Nat.reduceLeDiff, Nat.reduceEqDiff, Nat.reduceBEq, Nat.reduceBNe, Nat.reduceGT, Int.reduceAdd, Int.reduceSub, Int.reduceMul, Int.reduceNeg, Int.reduceLT, Int.reduceLE, Int.reduceEq, Int.reduceNe, Int.reduceBEq, Int.reduceBNe, Int.reduceToNat, Int.reduceGT, Int.reduceGE, ↓reduceIte, decide_true, decide_false, Try.f77, hne, hn, w1]
noncomputable def glDown : List TV → Option TV
  | [.int .i64 a, .int .i64 b] => if 0 < b ∧ -4000000000000000000 ≤ a ∧ a ≤ 4000000000000000000 then some (.int .i64 (a / b)) else none
  | _ => none
theorem glDown_ok : ∀ xs r, glDown xs = some r → PCalls Try.prog 77 xs r := by
  intro xs r h
  unfold glDown at h
  split at h
  · split at h
    · rename_i hc; cases h; exact lDown_c _ _ hc.1 hc.2
    · cases h
  · cases h
attribute [go_sem] glDown
noncomputable def spC1 : Pm.Spec := spL1.one 77 glDown
@[go_sem] theorem spC1_p (f : FuncId) (xs : List TV) : spC1.p f xs = Pm.Spec.p (spL1.one 77 glDown) f xs := rfl
@[go_sem] theorem spC1_h (f : FuncId) (ps : List PV) (hl : List PO) : spC1.h f ps hl = Pm.Spec.h (spL1.one 77 glDown) f ps hl := rfl
@[go_sem] theorem spC1_y (Y : Pm.YS) (f : FuncId) (ps : List PV) (hl : List PO) : spC1.y Y f ps hl = Pm.Spec.y (spL1.one 77 glDown) Y f ps hl := rfl
@[go_sem] theorem spC1_fz (f : FuncId) : spC1.fz f = Pm.Spec.fz (spL1.one 77 glDown) f := rfl
@[go_sem] theorem spC1_fr (f : FuncId) : spC1.fr f = Pm.Spec.fr (spL1.one 77 glDown) f := rfl
@[go_sem] theorem spC1_yf (f : FuncId) : spC1.yf f = Pm.Spec.yf (spL1.one 77 glDown) f := rfl
@[go_sem] theorem spC1_mu (t : TypeId) : spC1.mu t = Pm.Spec.mu (spL1.one 77 glDown) t := rfl
@[go_sem] theorem spC1_nf (t : TypeId) : spC1.nf t = Pm.Spec.nf (spL1.one 77 glDown) t := rfl
theorem spC1_ok : SpecOk Try.prog spC1 := Spec.one_ok glDown_ok spL1_ok
theorem lUp_c (a b : Int) (hb : 0 < b) (ha : -4000000000000000000 ≤ a ∧ a ≤ 4000000000000000000) : PCalls Try.prog 76 [.int .i64 a, .int .i64 b] (.int .i64 (-((-a) / b))) := by
  refine pcalls_by Try.mixes spC1_ok (fn := Try.f76) Try.func76 rfl (by kernel_rfl) (by show 2 ≤ _; decide) ?_
  have w1 : IntKind.i64.wrap (0 - a) = -a := by rw [wrap_in (by omega) (by omega)]; omega
  have hc : 0 < b ∧ -4000000000000000000 ≤ -a ∧ -a ≤ 4000000000000000000 := by omega
  have hd := divB hb (a := -a) (by omega)
  have w2 : IntKind.i64.wrap (0 - (-a) / b) = -((-a) / b) := by rw [wrap_in (by omega) (by omega)]; omega
  simp (decide := true) (maxSteps := 4000000) only [go_sem, Nat.reduceAdd, Nat.reduceSub, Nat.reduceMul, Nat.reduceDiv, Nat.reduceMod, Nat.reduceLT, Nat.reduceLeDiff, Nat.reduceEqDiff, Nat.reduceBEq, Nat.reduceBNe, Nat.reduceGT, Int.reduceAdd, Int.reduceSub, Int.reduceMul, Int.reduceNeg, Int.reduceLT, Int.reduceLE, Int.reduceEq, Int.reduceNe, Int.reduceBEq, Int.reduceBNe, Int.reduceToNat, Int.reduceGT, Int.reduceGE, ↓reduceIte, decide_true, decide_false, Try.f76, w1, hc, w2]
noncomputable def glUp : List TV → Option TV
  | [.int .i64 a, .int .i64 b] => if 0 < b ∧ -4000000000000000000 ≤ a ∧ a ≤ 4000000000000000000 then some (.int .i64 (-((-a) / b))) else none
  | _ => none
theorem glUp_ok : ∀ xs r, glUp xs = some r → PCalls Try.prog 76 xs r := by
  intro xs r h
  unfold glUp at h
  split at h
  · split at h
    · rename_i hc; cases h; exact lUp_c _ _ hc.1 hc.2
    · cases h
  · cases h
attribute [go_sem] glUp
noncomputable def spC1u : Pm.Spec := spC1.one 76 glUp
@[go_sem] theorem spC1u_p (f : FuncId) (xs : List TV) : spC1u.p f xs = Pm.Spec.p (spC1.one 76 glUp) f xs := rfl
@[go_sem] theorem spC1u_h (f : FuncId) (ps : List PV) (hl : List PO) : spC1u.h f ps hl = Pm.Spec.h (spC1.one 76 glUp) f ps hl := rfl
@[go_sem] theorem spC1u_y (Y : Pm.YS) (f : FuncId) (ps : List PV) (hl : List PO) : spC1u.y Y f ps hl = Pm.Spec.y (spC1.one 76 glUp) Y f ps hl := rfl
@[go_sem] theorem spC1u_fz (f : FuncId) : spC1u.fz f = Pm.Spec.fz (spC1.one 76 glUp) f := rfl
@[go_sem] theorem spC1u_fr (f : FuncId) : spC1u.fr f = Pm.Spec.fr (spC1.one 76 glUp) f := rfl
@[go_sem] theorem spC1u_yf (f : FuncId) : spC1u.yf f = Pm.Spec.yf (spC1.one 76 glUp) f := rfl
@[go_sem] theorem spC1u_mu (t : TypeId) : spC1u.mu t = Pm.Spec.mu (spC1.one 76 glUp) t := rfl
@[go_sem] theorem spC1u_nf (t : TypeId) : spC1u.nf t = Pm.Spec.nf (spC1.one 76 glUp) t := rfl
theorem spC1u_ok : SpecOk Try.prog spC1u := Spec.one_ok glUp_ok spC1_ok
noncomputable def spC2 : Pm.Spec := spC1u
theorem spC2_ok : SpecOk Try.prog spC2 := spC1u_ok
@[go_sem] theorem spC2_p (f : FuncId) (xs : List TV) : spC2.p f xs = Pm.Spec.p (spC1u) f xs := rfl
@[go_sem] theorem spC2_h (f : FuncId) (ps : List PV) (hl : List PO) : spC2.h f ps hl = Pm.Spec.h (spC1u) f ps hl := rfl
@[go_sem] theorem spC2_y (Y : Pm.YS) (f : FuncId) (ps : List PV) (hl : List PO) : spC2.y Y f ps hl = Pm.Spec.y (spC1u) Y f ps hl := rfl
@[go_sem] theorem spC2_fz (f : FuncId) : spC2.fz f = Pm.Spec.fz (spC1u) f := rfl
@[go_sem] theorem spC2_fr (f : FuncId) : spC2.fr f = Pm.Spec.fr (spC1u) f := rfl
@[go_sem] theorem spC2_yf (f : FuncId) : spC2.yf f = Pm.Spec.yf (spC1u) f := rfl
@[go_sem] theorem spC2_mu (t : TypeId) : spC2.mu t = Pm.Spec.mu (spC1u) t := rfl
@[go_sem] theorem spC2_nf (t : TypeId) : spC2.nf t = Pm.Spec.nf (spC1u) t := rfl
/-- The clicks, and the error. -/
def clicksP (t : Span) (worth bound : Int) : Int × Int :=
  if spannedB t (-1000000) 1000000 = true ∧ inB worth 1 100 = true ∧ inB bound 0 1000000 = true then
    (if -((-(-bound - t.lo)) / worth) > (bound - t.hi) / worth then (0, 4) else if -((-(-bound - t.lo)) / worth) > 0 then (-((-(-bound - t.lo)) / worth), 0) else if (bound - t.hi) / worth < 0 then ((bound - t.hi) / worth, 0) else (0, 0))
  else (0, 7)
theorem lClicks_c (t : Span) (worth bound : Int) : PCalls Try.prog 38 [t.t, .int .i64 worth, .int .i64 bound] (.tup [.int .i64 (clicksP t worth bound).1, .int .i64 (clicksP t worth bound).2]) := by
  refine pcalls_by Try.mixes spC2_ok (fn := Try.f38) Try.func38 rfl (by kernel_rfl) (by show 3 ≤ _; decide) ?_
  unfold clicksP
  cases h1 : spannedB t (-1000000) 1000000 with
  | false => simp (decide := true) (maxSteps := 4000000) only [go_sem, Nat.reduceAdd, Nat.reduceSub, Nat.reduceMul, Nat.reduceDiv, Nat.reduceMod, Nat.reduceLT, Nat.reduceLeDiff, Nat.reduceEqDiff, Nat.reduceBEq, Nat.reduceBNe, Nat.reduceGT, Int.reduceAdd, Int.reduceSub, Int.reduceMul, Int.reduceNeg, Int.reduceLT, Int.reduceLE, Int.reduceEq, Int.reduceNe, Int.reduceBEq, Int.reduceBNe, Int.reduceToNat, Int.reduceGT, Int.reduceGE, ↓reduceIte, decide_true, decide_false, Try.f38, Span.t, Span.cs, h1]
  | true =>
    cases h2 : inB worth 1 100 with
    | false => simp (decide := true) (maxSteps := 4000000) only [go_sem, Nat.reduceAdd, Nat.reduceSub, Nat.reduceMul, Nat.reduceDiv, Nat.reduceMod, Nat.reduceLT, Nat.reduceLeDiff, Nat.reduceEqDiff, Nat.reduceBEq, Nat.reduceBNe, Nat.reduceGT, Int.reduceAdd, Int.reduceSub, Int.reduceMul, Int.reduceNeg, Int.reduceLT, Int.reduceLE, Int.reduceEq, Int.reduceNe, Int.reduceBEq, Int.reduceBNe, Int.reduceToNat, Int.reduceGT, Int.reduceGE, ↓reduceIte, decide_true, decide_false, Try.f38, Span.t, Span.cs, h1, h2]
    | true =>
      cases h3 : inB bound 0 1000000 with
      | false => simp (decide := true) (maxSteps := 4000000) only [go_sem, Nat.reduceAdd, Nat.reduceSub, Nat.reduceMul, Nat.reduceDiv, Nat.reduceMod, Nat.reduceLT, Nat.reduceLeDiff, Nat.reduceEqDiff, Nat.reduceBEq, Nat.reduceBNe, Nat.reduceGT, Int.reduceAdd, Int.reduceSub, Int.reduceMul, Int.reduceNeg, Int.reduceLT, Int.reduceLE, Int.reduceEq, Int.reduceNe, Int.reduceBEq, Int.reduceBNe, Int.reduceToNat, Int.reduceGT, Int.reduceGE, ↓reduceIte, decide_true, decide_false, Try.f38, Span.t, Span.cs, h1, h2, h3]
      | true =>
        have h1' := h1
        have h2' := inB_iff.1 h2
        have h3' := inB_iff.1 h3
        simp only [spannedB, Bool.and_eq_true, decide_eq_true_eq] at h1'
        have w0 : IntKind.i64.wrap (0 - bound) = -bound := by rw [wrap_in (by omega) (by omega)]; omega
        have w1 : IntKind.i64.wrap (-bound - t.lo) = -bound - t.lo := wrap_in (by omega) (by omega)
        have w2 : IntKind.i64.wrap (bound - t.hi) = bound - t.hi := wrap_in (by omega) (by omega)
        have c1 : 0 < worth ∧ -4000000000000000000 ≤ -bound - t.lo ∧ -bound - t.lo ≤ 4000000000000000000 := by omega
        have c2 : 0 < worth ∧ -4000000000000000000 ≤ bound - t.hi ∧ bound - t.hi ≤ 4000000000000000000 := by omega
        by_cases g1 : -((-(-bound - t.lo)) / worth) > (bound - t.hi) / worth
        · simp (decide := true) (maxSteps := 4000000) only [go_sem, Nat.reduceAdd, Nat.reduceSub, Nat.reduceMul, Nat.reduceDiv, Nat.reduceMod, Nat.reduceLT, Nat.reduceLeDiff, Nat.reduceEqDiff, Nat.reduceBEq, Nat.reduceBNe, Nat.reduceGT, Int.reduceAdd, Int.reduceSub, Int.reduceMul, Int.reduceNeg, Int.reduceLT, Int.reduceLE, Int.reduceEq, Int.reduceNe, Int.reduceBEq, Int.reduceBNe, Int.reduceToNat, Int.reduceGT, Int.reduceGE, ↓reduceIte, decide_true, decide_false, Try.f38, Span.t, Span.cs, h1, h2, h3, w0, w1, w2, c1, c2, g1]
        · by_cases g2 : -((-(-bound - t.lo)) / worth) > 0
          · simp (decide := true) (maxSteps := 4000000) only [go_sem, Nat.reduceAdd, Nat.reduceSub, Nat.reduceMul, Nat.reduceDiv, Nat.reduceMod, Nat.reduceLT, Nat.reduceLeDiff, Nat.reduceEqDiff, Nat.reduceBEq, Nat.reduceBNe, Nat.reduceGT, Int.reduceAdd, Int.reduceSub, Int.reduceMul, Int.reduceNeg, Int.reduceLT, Int.reduceLE, Int.reduceEq, Int.reduceNe, Int.reduceBEq, Int.reduceBNe, Int.reduceToNat, Int.reduceGT, Int.reduceGE, ↓reduceIte, decide_true, decide_false, Try.f38, Span.t, Span.cs, h1, h2, h3, w0, w1, w2, c1, c2, g1, g2]
          · by_cases g3 : (bound - t.hi) / worth < 0 <;> simp (decide := true) (maxSteps := 4000000) only [go_sem, Nat.reduceAdd, Nat.reduceSub, Nat.reduceMul, Nat.reduceDiv, Nat.reduceMod, Nat.reduceLT, Nat.reduceLeDiff, Nat.reduceEqDiff, Nat.reduceBEq, Nat.reduceBNe, Nat.reduceGT, Int.reduceAdd, Int.reduceSub, Int.reduceMul, Int.reduceNeg, Int.reduceLT, Int.reduceLE, Int.reduceEq, Int.reduceNe, Int.reduceBEq, Int.reduceBNe, Int.reduceToNat, Int.reduceGT, Int.reduceGE, ↓reduceIte, decide_true, decide_false, Try.f38, Span.t, Span.cs, h1, h2, h3, w0, w1, w2, c1, c2, g1, g2, g3]
end Go.Proofs.Ytadkjjnnnkfalaa.Lv

/- Part LTc. -/
namespace Go.Oc.Lv
end Go.Oc.Lv
namespace Go.Proofs.Ytadkjjnnnkfalaa.Lv
end Go.Proofs.Ytadkjjnnnkfalaa.Lv
namespace Go.Proofs.Ytadkjjnnnkfalaa.Lv
open Go.RowKit Go.Pm Go.Oc Go.Oc.Lv
set_option maxRecDepth 100000
set_option linter.unusedVariables false

noncomputable def glClicks : List TV → Option TV
  | [.agg [.int .i64 a, .int .i64 b], .int .i64 w, .int .i64 c] => some (.tup [.int .i64 (clicksP ⟨a, b⟩ w c).1, .int .i64 (clicksP ⟨a, b⟩ w c).2])
  | _ => none
theorem glClicks_ok : ∀ xs r, glClicks xs = some r → PCalls Try.prog 38 xs r := by
  intro xs r h
  unfold glClicks at h
  split at h
  · cases h; exact lClicks_c ⟨_, _⟩ _ _
  · cases h
attribute [go_sem] glClicks
end Go.Proofs.Ytadkjjnnnkfalaa.Lv

/- Part Lw. -/
namespace Go.Oc.Lv
end Go.Oc.Lv
namespace Go.Proofs.Ytadkjjnnnkfalaa.Lv
end Go.Proofs.Ytadkjjnnnkfalaa.Lv
namespace Go.Proofs.Ytadkjjnnnkfalaa.Lv
open Go.RowKit Go.Pm Go.Oc Go.Oc.Lv
set_option maxRecDepth 100000
set_option linter.unusedVariables false
set_option maxHeartbeats 1000000

def midW (r : Rd) : Mk := ⟨IntKind.i64.wrap (r.left + r.right), r.turned⟩
theorem rdsOk_mem {v : Vial} {l : List Rd} (h : rdsOk v l = true) {r : Rd} (hr : r ∈ l) : 0 ≤ r.left ∧ r.left < r.right ∧ r.right ≤ v.marks ∧ v.l0 - v.wr ≤ r.right - r.left ∧ r.right - r.left ≤ v.l1 + v.wr := by
  simp only [rdsOk, Bool.and_eq_true, List.all_eq_true] at h
  have := h.2 r hr
  simp only [rdOk, inB, Bool.and_eq_true, decide_eq_true_eq] at this
  omega
theorem rdP_eq {v : Vial} (hv : (10 ≤ v.marks ∧ v.marks ≤ 200) ∧ (1 ≤ v.l0 ∧ v.l0 ≤ v.l1 ∧ v.l1 ≤ v.marks) ∧ (1 ≤ v.v0 ∧ v.v0 ≤ v.v1 ∧ v.v1 ≤ 500) ∧ (0 ≤ v.z0 ∧ v.z0 ≤ v.z1 ∧ v.z1 ≤ 2 * v.marks) ∧ 0 ≤ v.wr ∧ v.wr ≤ 8) (x : Rd) :
    (decide (x.left ≥ 0) && decide (x.right > x.left) && decide (x.right ≤ v.marks) && inB (IntKind.i64.wrap (x.right - x.left)) (v.l0 - v.wr) (v.l1 + v.wr)) = rdOk v x := by
  unfold rdOk
  by_cases h1 : 0 ≤ x.left ∧ x.left < x.right ∧ x.right ≤ v.marks
  · rw [wrap_in (by omega) (by omega)]
    have a1 : x.left ≥ 0 := h1.1
    have a2 : x.right > x.left := h1.2.1
    have a3 : inB x.left 0 v.marks = true := inB_iff.2 (by omega)
    have a4 : inB x.right (x.left + 1) v.marks = true := inB_iff.2 (by omega)
    simp [a1, a2, h1.2.2, a3, a4]
  · have h2 : (decide (x.left ≥ 0) && decide (x.right > x.left) && decide (x.right ≤ v.marks)) = false := by
      rw [← Bool.not_eq_true]
      simp only [Bool.and_eq_true, decide_eq_true_eq]
      omega
    have h3 : (inB x.left 0 v.marks && inB x.right (x.left + 1) v.marks) = false := by
      rw [← Bool.not_eq_true]
      simp only [Bool.and_eq_true, inB_iff]
      omega
    rw [h2, h3]; rfl
theorem lOpened_c (v : Vial) {l : List Rd} (full : Bool) (hv : v.ok = true) (hl : l.length ≤ 5864062014806) : PCalls Try.prog 70 [v.t, .sl (l.flatMap Rd.cs) l.length full] (if rdsOk v l = true then .tup [v.t, .sl ((l.map mid).flatMap Mk.als) l.length false, .int .i64 0] else .tup [v.t, .nilSl, .int .i64 31]) := by
  have hv' := Vial.ok_iff.1 hv
  refine pcalls_by Try.mixes spL2_ok (fn := Try.f70) Try.func70 rfl (by kernel_rfl) (by show 2 ≤ _; decide) ?_
  simp (decide := true) (maxSteps := 4000000) only [go_sem, Nat.reduceAdd, Nat.reduceSub, Nat.reduceMul, Nat.reduceDiv, Nat.reduceMod, Nat.reduceLT, Nat.reduceLeDiff, Nat.reduceEqDiff, Nat.reduceBEq, Nat.reduceBNe, Nat.reduceGT, Int.reduceAdd, Int.reduceSub, Int.reduceMul, Int.reduceNeg, Int.reduceLT, Int.reduceLE, Int.reduceEq, Int.reduceNe, Int.reduceBEq, Int.reduceBNe, Int.reduceToNat, Int.reduceGT, Int.reduceGE, ↓reduceIte, decide_true, decide_false, Try.f70, Vial.t, Vial.cs, hv]
  refine pwpC_loop (A := { k : Nat // k ≤ l.length }) (fun k => { env := [(24, .t (.int .i64 k.1)), (23, .t (.int .i64 l.length)), (22, .t (.sl (l.flatMap Rd.cs) l.length full)), (8, .t (.bool (inB l.length 1 8 && (l.take k.1).all (rdOk v)))), (5, .own (((l.take k.1).map midW).flatMap Mk.als) k.1 2), (4, .ptr 1 0), (2, .ptr 0 0)], heap := [.box (v.cs.map .t), .box (v.cs.map .t), .tok k.1 172] }) (fun k => l.length - k.1) ⟨0, by omega⟩ ?_ (fun k => by rfl) fun ⟨k, hk⟩ => ?_
  · simp (decide := true) (maxSteps := 4000000) only [go_sem, Nat.reduceAdd, Nat.reduceSub, Nat.reduceMul, Nat.reduceDiv, Nat.reduceMod, Nat.reduceLT, Nat.reduceLeDiff, Nat.reduceEqDiff, Nat.reduceBEq, Nat.reduceBNe, Nat.reduceGT, Int.reduceAdd, Int.reduceSub, Int.reduceMul, Int.reduceNeg, Int.reduceLT, Int.reduceLE, Int.reduceEq, Int.reduceNe, Int.reduceBEq, Int.reduceBNe, Int.reduceToNat, Int.reduceGT, Int.reduceGE, ↓reduceIte, decide_true, decide_false, Vial.cs]
  · by_cases hlt : (k : Int) < l.length
    · obtain ⟨x, hx⟩ := get_lt hlt
      have hd := flat_at Rd.cs (n := 3) (fun _ => rfl) hx
      have hc : (List.flatMap Mk.als (List.map midW (List.take k l))).length = k * 1 := by rw [flat_len Mk.als (n := 1) (fun _ => rfl)]; simp; omega
      have hr : (k + 1) * 16 ≤ 140737488355328 := by omega
      have hk1 : IntKind.i64.wrap (k + 1) = ((k + 1 : Nat) : Int) := by rw [wrap_in (by omega) (by omega)]; omega
      have ht : (List.take (k + 1) l).map midW = (List.take k l).map midW ++ [midW x] := by rw [take_snoc hx]; simp
      have e1 : IntKind.i64.wrap (v.l0 - v.wr) = v.l0 - v.wr := wrap_in (by omega) (by omega)
      have e2 : IntKind.i64.wrap (v.l1 + v.wr) = v.l1 + v.wr := wrap_in (by omega) (by omega)
      simp (decide := true) (maxSteps := 4000000) only [go_sem, Nat.reduceAdd, Nat.reduceSub, Nat.reduceMul, Nat.reduceDiv, Nat.reduceMod, Nat.reduceLT, Nat.reduceLeDiff, Nat.reduceEqDiff, Nat.reduceBEq, Nat.reduceBNe, Nat.reduceGT, Int.reduceAdd, Int.reduceSub, Int.reduceMul, Int.reduceNeg, Int.reduceLT, Int.reduceLE, Int.reduceEq, Int.reduceNe, Int.reduceBEq, Int.reduceBNe, Int.reduceToNat, Int.reduceGT, Int.reduceGE, ↓reduceIte, decide_true, decide_false, hlt, hd, Rd.cs, Vial.cs, hc, hr]
      refine ⟨⟨k + 1, by omega⟩, ?_⟩
      simp (decide := true) (maxSteps := 4000000) only [go_sem, Nat.reduceAdd, Nat.reduceSub, Nat.reduceMul, Nat.reduceDiv, Nat.reduceMod, Nat.reduceLT, Nat.reduceLeDiff, Nat.reduceEqDiff, Nat.reduceBEq, Nat.reduceBNe, Nat.reduceGT, Int.reduceAdd, Int.reduceSub, Int.reduceMul, Int.reduceNeg, Int.reduceLT, Int.reduceLE, Int.reduceEq, Int.reduceNe, Int.reduceBEq, Int.reduceBNe, Int.reduceToNat, Int.reduceGT, Int.reduceGE, ↓reduceIte, decide_true, decide_false, hk1, ht, List.flatMap_append, Mk.als, Mk.al, midW, e1, e2]
      refine ⟨?_, by omega⟩
      rw [take_all _ hx, ← Bool.and_assoc]
      cases (inB l.length 1 8 && (l.take k).all (rdOk v))
      · simp
      · simp only [Bool.true_and]; exact rdP_eq hv' x
    · have hkl : k = l.length := by omega
      subst hkl
      have hrd : rdsOk v l = (inB l.length 1 8 && (l.take l.length).all (rdOk v)) := by rw [List.take_length]; rfl
      cases hr : rdsOk v l with
      | true =>
        rw [hr] at hrd
        have h8 := rdsOk_len hr
        have h0 : ¬ l.length = 0 := by omega
        have hmm : (l.take l.length).map midW = l.map mid := by
          rw [List.take_length]
          refine List.map_congr_left fun r hr' => ?_
          have := rdsOk_mem hr hr'
          unfold midW mid
          rw [wrap_in (by omega) (by omega)]
        simp (decide := true) (maxSteps := 4000000) only [go_sem, Nat.reduceAdd, Nat.reduceSub, Nat.reduceMul, Nat.reduceDiv, Nat.reduceMod, Nat.reduceLT, Nat.reduceLeDiff, Nat.reduceEqDiff, Nat.reduceBEq, Nat.reduceBNe, Nat.reduceGT, Int.reduceAdd, Int.reduceSub, Int.reduceMul, Int.reduceNeg, Int.reduceLT, Int.reduceLE, Int.reduceEq, Int.reduceNe, Int.reduceBEq, Int.reduceBNe, Int.reduceToNat, Int.reduceGT, Int.reduceGE, ↓reduceIte, decide_true, decide_false, hlt, ← hrd, Vial.cs, h0, hmm]
      | false =>
        rw [hr] at hrd
        simp (decide := true) (maxSteps := 4000000) only [go_sem, Nat.reduceAdd, Nat.reduceSub, Nat.reduceMul, Nat.reduceDiv, Nat.reduceMod, Nat.reduceLT, Nat.reduceLeDiff, Nat.reduceEqDiff, Nat.reduceBEq, Nat.reduceBNe, Nat.reduceGT, Int.reduceAdd, Int.reduceSub, Int.reduceMul, Int.reduceNeg, Int.reduceLT, Int.reduceLE, Int.reduceEq, Int.reduceNe, Int.reduceBEq, Int.reduceBNe, Int.reduceToNat, Int.reduceGT, Int.reduceGE, ↓reduceIte, decide_true, decide_false, hlt, ← hrd, Vial.cs]
theorem lOpened_v (v : Vial) {l : List Rd} {s : TV} (hs : IsRow Rd.cs s l) (hv : v.ok = false) : PCalls Try.prog 70 [v.t, s] (.tup [(Vial.t ⟨0, 0, 0, 0, 0, 0, 0, 0⟩), .nilSl, .int .i64 30]) := by
  refine pcalls_by Try.mixes spL2_ok (fn := Try.f70) Try.func70 rfl (by kernel_rfl) (by show 2 ≤ _; decide) ?_
  rcases hs with ⟨rfl, rfl⟩ | ⟨full, rfl⟩ <;> simp (decide := true) (maxSteps := 4000000) only [go_sem, Nat.reduceAdd, Nat.reduceSub, Nat.reduceMul, Nat.reduceDiv, Nat.reduceMod, Nat.reduceLT, Nat.reduceLeDiff, Nat.reduceEqDiff, Nat.reduceBEq, Nat.reduceBNe, Nat.reduceGT, Int.reduceAdd, Int.reduceSub, Int.reduceMul, Int.reduceNeg, Int.reduceLT, Int.reduceLE, Int.reduceEq, Int.reduceNe, Int.reduceBEq, Int.reduceBNe, Int.reduceToNat, Int.reduceGT, Int.reduceGE, ↓reduceIte, decide_true, decide_false, Try.f70, Vial.t, Vial.cs, hv]
theorem lOpened_n (v : Vial) (hv : v.ok = true) : PCalls Try.prog 70 [v.t, .nilSl] (.tup [v.t, .nilSl, .int .i64 31]) := by
  refine pcalls_by Try.mixes spL2_ok (fn := Try.f70) Try.func70 rfl (by kernel_rfl) (by show 2 ≤ _; decide) ?_
  simp (decide := true) (maxSteps := 4000000) only [go_sem, Nat.reduceAdd, Nat.reduceSub, Nat.reduceMul, Nat.reduceDiv, Nat.reduceMod, Nat.reduceLT, Nat.reduceLeDiff, Nat.reduceEqDiff, Nat.reduceBEq, Nat.reduceBNe, Nat.reduceGT, Int.reduceAdd, Int.reduceSub, Int.reduceMul, Int.reduceNeg, Int.reduceLT, Int.reduceLE, Int.reduceEq, Int.reduceNe, Int.reduceBEq, Int.reduceBNe, Int.reduceToNat, Int.reduceGT, Int.reduceGE, ↓reduceIte, decide_true, decide_false, Try.f70, Vial.t, Vial.cs, hv]
  refine pwpC_loop (A := Unit) (fun k => { env := [(24, .t (.int .i64 0)), (23, .t (.int .i64 0)), (8, .t (.bool false)), (4, .ptr 1 0), (2, .ptr 0 0)], heap := [.box (v.cs.map .t), .box (v.cs.map .t)] }) (fun _ => 0) () ?_ (fun k => by rfl) fun _ => ?_
  · simp (decide := true) (maxSteps := 4000000) only [go_sem, Nat.reduceAdd, Nat.reduceSub, Nat.reduceMul, Nat.reduceDiv, Nat.reduceMod, Nat.reduceLT, Nat.reduceLeDiff, Nat.reduceEqDiff, Nat.reduceBEq, Nat.reduceBNe, Nat.reduceGT, Int.reduceAdd, Int.reduceSub, Int.reduceMul, Int.reduceNeg, Int.reduceLT, Int.reduceLE, Int.reduceEq, Int.reduceNe, Int.reduceBEq, Int.reduceBNe, Int.reduceToNat, Int.reduceGT, Int.reduceGE, ↓reduceIte, decide_true, decide_false, Vial.cs, inB]
  · simp (decide := true) (maxSteps := 4000000) only [go_sem, Nat.reduceAdd, Nat.reduceSub, Nat.reduceMul, Nat.reduceDiv, Nat.reduceMod, Nat.reduceLT, Nat.reduceLeDiff, Nat.reduceEqDiff, Nat.reduceBEq, Nat.reduceBNe, Nat.reduceGT, Int.reduceAdd, Int.reduceSub, Int.reduceMul, Int.reduceNeg, Int.reduceLT, Int.reduceLE, Int.reduceEq, Int.reduceNe, Int.reduceBEq, Int.reduceBNe, Int.reduceToNat, Int.reduceGT, Int.reduceGE, ↓reduceIte, decide_true, decide_false, Vial.cs]
def openedT (v : Vial) (l : List Rd) : TV := if v.ok = false then .tup [(Vial.t ⟨0, 0, 0, 0, 0, 0, 0, 0⟩), .nilSl, .int .i64 30] else if rdsOk v l = true then .tup [v.t, .sl ((l.map mid).flatMap Mk.als) l.length false, .int .i64 0] else .tup [v.t, .nilSl, .int .i64 31]
theorem lOpened_d (v : Vial) {l : List Rd} {s : TV} (hs : IsRow Rd.cs s l) (hl : l.length ≤ 5864062014806) : PCalls Try.prog 70 [v.t, s] (openedT v l) := by
  unfold openedT
  cases hv : v.ok with
  | false => exact lOpened_v v hs hv
  | true =>
    rw [if_neg (by simp)]
    rcases hs with ⟨rfl, rfl⟩ | ⟨full, rfl⟩
    · exact lOpened_n v hv
    · exact lOpened_c v full hv hl
noncomputable def glOpened : List TV → Option TV
  | [.agg [.int .i64 m, .int .i64 a, .int .i64 b, .int .i64 c, .int .i64 d, .int .i64 e, .int .i64 f, .int .i64 g], s] => match rowL unRds s with
    | some l => if l.length ≤ 5864062014806 then some (openedT ⟨m, a, b, c, d, e, f, g⟩ l) else none
    | none => none
  | _ => none
theorem glOpened_ok : ∀ xs r, glOpened xs = some r → PCalls Try.prog 70 xs r := by
  intro xs r h
  unfold glOpened at h
  split at h
  · split at h
    · rename_i l hl
      have hl := rowL_some (un := unRds) (by first | rfl | exact unRds_nil) (@unRds_some) hl
      split at h
      · rename_i hc; cases h; exact lOpened_d ⟨_, _, _, _, _, _, _, _⟩ hl hc
      · cases h
    · cases h
  · cases h
attribute [go_sem] glOpened
noncomputable def spL3 : Pm.Spec := spL2.one 70 glOpened
@[go_sem] theorem spL3_p (f : FuncId) (xs : List TV) : spL3.p f xs = Pm.Spec.p (spL2.one 70 glOpened) f xs := rfl
@[go_sem] theorem spL3_h (f : FuncId) (ps : List PV) (hl : List PO) : spL3.h f ps hl = Pm.Spec.h (spL2.one 70 glOpened) f ps hl := rfl
@[go_sem] theorem spL3_y (Y : Pm.YS) (f : FuncId) (ps : List PV) (hl : List PO) : spL3.y Y f ps hl = Pm.Spec.y (spL2.one 70 glOpened) Y f ps hl := rfl
@[go_sem] theorem spL3_fz (f : FuncId) : spL3.fz f = Pm.Spec.fz (spL2.one 70 glOpened) f := rfl
@[go_sem] theorem spL3_fr (f : FuncId) : spL3.fr f = Pm.Spec.fr (spL2.one 70 glOpened) f := rfl
@[go_sem] theorem spL3_yf (f : FuncId) : spL3.yf f = Pm.Spec.yf (spL2.one 70 glOpened) f := rfl
@[go_sem] theorem spL3_mu (t : TypeId) : spL3.mu t = Pm.Spec.mu (spL2.one 70 glOpened) t := rfl
@[go_sem] theorem spL3_nf (t : TypeId) : spL3.nf t = Pm.Spec.nf (spL2.one 70 glOpened) t := rfl
theorem spL3_ok : SpecOk Try.prog spL3 := Spec.one_ok glOpened_ok spL2_ok
end Go.Proofs.Ytadkjjnnnkfalaa.Lv

/- Part Lx. -/
namespace Go.Oc.Lv
end Go.Oc.Lv
namespace Go.Proofs.Ytadkjjnnnkfalaa.Lv
end Go.Proofs.Ytadkjjnnnkfalaa.Lv
namespace Go.Proofs.Ytadkjjnnnkfalaa.Lv
open Go.RowKit Go.Pm Go.Oc Go.Oc.Lv
set_option maxRecDepth 100000
set_option linter.unusedVariables false
set_option maxHeartbeats 1000000

theorem lEnds_c (a : Int) (l : List Int) (full : Bool) (hl : (l.length : Int) ≤ 1000000) : PCalls Try.prog 111 [.int .i64 a, .sl (ints l) l.length full] (.tup [.int .i64 (l.foldl min a), .int .i64 (l.foldl max a)]) := by
  refine pcalls_by Try.mixes noSpec_ok (fn := Try.f111) Try.func111 rfl (by kernel_rfl) (by show 2 ≤ _; decide) ?_
  simp (decide := true) (maxSteps := 4000000) only [go_sem, Nat.reduceAdd, Nat.reduceSub, Nat.reduceMul, Nat.reduceDiv, Nat.reduceMod, Nat.reduceLT, Nat.reduceLeDiff, Nat.reduceEqDiff, Nat.reduceBEq, Nat.reduceBNe, Nat.reduceGT, Int.reduceAdd, Int.reduceSub, Int.reduceMul, Int.reduceNeg, Int.reduceLT, Int.reduceLE, Int.reduceEq, Int.reduceNe, Int.reduceBEq, Int.reduceBNe, Int.reduceToNat, Int.reduceGT, Int.reduceGE, ↓reduceIte, decide_true, decide_false, Try.f111]
  refine pwpC_loop (A := { k : Nat // k ≤ l.length }) (fun k => { env := [(12, .t (.int .i64 k.1)), (11, .t (.int .i64 l.length)), (10, .t (.sl (ints l) l.length full)), (4, .t (.int .i64 ((l.take k.1).foldl min a))), (5, .t (.int .i64 ((l.take k.1).foldl max a)))], heap := [] }) (fun k => l.length - k.1) ⟨0, by omega⟩ ?_ (fun k => by rfl) fun ⟨k, hk⟩ => ?_
  · simp (decide := true) (maxSteps := 4000000) only [go_sem, Nat.reduceAdd, Nat.reduceSub, Nat.reduceMul, Nat.reduceDiv, Nat.reduceMod, Nat.reduceLT, Nat.reduceLeDiff, Nat.reduceEqDiff, Nat.reduceBEq, Nat.reduceBNe, Nat.reduceGT, Int.reduceAdd, Int.reduceSub, Int.reduceMul, Int.reduceNeg, Int.reduceLT, Int.reduceLE, Int.reduceEq, Int.reduceNe, Int.reduceBEq, Int.reduceBNe, Int.reduceToNat, Int.reduceGT, Int.reduceGE, ↓reduceIte, decide_true, decide_false]
  · by_cases hlt : (k : Int) < l.length
    · obtain ⟨x, hx⟩ := get_lt hlt
      have hk1 : IntKind.i64.wrap (k + 1) = ((k + 1 : Nat) : Int) := by rw [wrap_in (by omega) (by omega)]; omega
      simp (decide := true) (maxSteps := 4000000) only [go_sem, Nat.reduceAdd, Nat.reduceSub, Nat.reduceMul, Nat.reduceDiv, Nat.reduceMod, Nat.reduceLT, Nat.reduceLeDiff, Nat.reduceEqDiff, Nat.reduceBEq, Nat.reduceBNe, Nat.reduceGT, Int.reduceAdd, Int.reduceSub, Int.reduceMul, Int.reduceNeg, Int.reduceLT, Int.reduceLE, Int.reduceEq, Int.reduceNe, Int.reduceBEq, Int.reduceBNe, Int.reduceToNat, Int.reduceGT, Int.reduceGE, ↓reduceIte, decide_true, decide_false, hlt, ints_at hx]
      refine ⟨⟨k + 1, by omega⟩, ?_⟩
      simp (decide := true) (maxSteps := 4000000) only [go_sem, Nat.reduceAdd, Nat.reduceSub, Nat.reduceMul, Nat.reduceDiv, Nat.reduceMod, Nat.reduceLT, Nat.reduceLeDiff, Nat.reduceEqDiff, Nat.reduceBEq, Nat.reduceBNe, Nat.reduceGT, Int.reduceAdd, Int.reduceSub, Int.reduceMul, Int.reduceNeg, Int.reduceLT, Int.reduceLE, Int.reduceEq, Int.reduceNe, Int.reduceBEq, Int.reduceBNe, Int.reduceToNat, Int.reduceGT, Int.reduceGE, ↓reduceIte, decide_true, decide_false, hk1, take_snoc hx, List.foldl_append]
      omega
    · have hkl : k = l.length := by omega
      subst hkl
      simp (decide := true) (maxSteps := 4000000) only [go_sem, Nat.reduceAdd, Nat.reduceSub, Nat.reduceMul, Nat.reduceDiv, Nat.reduceMod, Nat.reduceLT, Nat.reduceLeDiff, Nat.reduceEqDiff, Nat.reduceBEq, Nat.reduceBNe, Nat.reduceGT, Int.reduceAdd, Int.reduceSub, Int.reduceMul, Int.reduceNeg, Int.reduceLT, Int.reduceLE, Int.reduceEq, Int.reduceNe, Int.reduceBEq, Int.reduceBNe, Int.reduceToNat, Int.reduceGT, Int.reduceGE, ↓reduceIte, decide_true, decide_false, hlt, List.take_length]
def spF : Pm.Spec := { noSpec with fz := fun _ => true }
theorem spF_ok : SpecOk Try.prog spF := ⟨fun f xs r h => (by cases h), fun f xs hl v hl' h => (by cases h), fun Y f xs hl v hl' h => (by cases h)⟩
@[go_sem] theorem spF_p (f : FuncId) (xs : List TV) : spF.p f xs = Pm.Spec.p ({ noSpec with fz := fun _ => true }) f xs := rfl
@[go_sem] theorem spF_h (f : FuncId) (ps : List PV) (hl : List PO) : spF.h f ps hl = Pm.Spec.h ({ noSpec with fz := fun _ => true }) f ps hl := rfl
@[go_sem] theorem spF_y (Y : Pm.YS) (f : FuncId) (ps : List PV) (hl : List PO) : spF.y Y f ps hl = Pm.Spec.y ({ noSpec with fz := fun _ => true }) Y f ps hl := rfl
@[go_sem] theorem spF_fz (f : FuncId) : spF.fz f = Pm.Spec.fz ({ noSpec with fz := fun _ => true }) f := rfl
@[go_sem] theorem spF_fr (f : FuncId) : spF.fr f = Pm.Spec.fr ({ noSpec with fz := fun _ => true }) f := rfl
@[go_sem] theorem spF_yf (f : FuncId) : spF.yf f = Pm.Spec.yf ({ noSpec with fz := fun _ => true }) f := rfl
@[go_sem] theorem spF_mu (t : TypeId) : spF.mu t = Pm.Spec.mu ({ noSpec with fz := fun _ => true }) t := rfl
@[go_sem] theorem spF_nf (t : TypeId) : spF.nf t = Pm.Spec.nf ({ noSpec with fz := fun _ => true }) t := rfl
theorem lZeros_c (v : Vial) (s : TV) (hs : ∃ cs n full, s = .sl cs n full) : PCalls Try.prog 110 [v.t, s] (.fn 127 [] [.cptr v.cs, .cptr [s]]) := by
  refine pcalls_by Try.mixes spF_ok (fn := Try.f110) Try.func110 rfl (by kernel_rfl) (by show 2 ≤ _; decide) ?_
  obtain ⟨cs, n, full, rfl⟩ := hs
  simp (decide := true) (maxSteps := 4000000) only [go_sem, Nat.reduceAdd, Nat.reduceSub, Nat.reduceMul, Nat.reduceDiv, Nat.reduceMod, Nat.reduceLT, Nat.reduceLeDiff, Nat.reduceEqDiff, Nat.reduceBEq, Nat.reduceBNe, Nat.reduceGT, Int.reduceAdd, Int.reduceSub, Int.reduceMul, Int.reduceNeg, Int.reduceLT, Int.reduceLE, Int.reduceEq, Int.reduceNe, Int.reduceBEq, Int.reduceBNe, Int.reduceToNat, Int.reduceGT, Int.reduceGE, ↓reduceIte, decide_true, decide_false, Try.f110, Vial.t, Vial.cs]
end Go.Proofs.Ytadkjjnnnkfalaa.Lv

/- Part Ly. -/
namespace Go.Oc.Lv
end Go.Oc.Lv
namespace Go.Proofs.Ytadkjjnnnkfalaa.Lv
end Go.Proofs.Ytadkjjnnnkfalaa.Lv
namespace Go.Oc.Lv
open Go Go.Pm

theorem fold_le {w z : Int} : ∀ (l : List Mk) (s : Span), s.lo ≤ (l.foldl (inS w z) s).lo ∧ (l.foldl (inS w z) s).hi ≤ s.hi
  | [], s => ⟨Int.le_refl _, Int.le_refl _⟩
  | m :: l, s => by
    have := fold_le (w := w) (z := z) l (inS w z s m)
    simp only [List.foldl_cons]
    have h1 : s.lo ≤ (inS w z s m).lo := by simp only [inS]; omega
    have h2 : (inS w z s m).hi ≤ s.hi := by simp only [inS]; omega
    omega
theorem withinS_take {w z : Int} (l : List Mk) (i : Nat) : (withinS w (l.take i) z).lo ≤ (withinS w l z).lo ∧ (withinS w l z).hi ≤ (withinS w (l.take i) z).hi := by
  have := fold_le (w := w) (z := z) (l.drop i) (withinS w (l.take i) z)
  have e : withinS w l z = (l.drop i).foldl (inS w z) (withinS w (l.take i) z) := by
    unfold withinS; rw [← List.foldl_append, List.take_append_drop]
  rw [e]; exact this
theorem withinS_snoc {w z : Int} {l : List Mk} {i : Nat} {x : Mk} (h : l[i]? = some x) : withinS w (l.take (i + 1)) z = inS w z (withinS w (l.take i) z) x := by
  unfold withinS; rw [take_snoc h, List.foldl_append]; rfl
/-- How many zeros so far can be. -/
def cz (v : Vial) (l : List Mk) (k : Nat) : Nat := (zerosOf v l (range v.z0 k)).length
theorem cz_zero (v : Vial) (l : List Mk) : cz v l 0 = 0 := rfl
theorem cz_out {v : Vial} {l : List Mk} {k : Nat} (h : ¬ (withinS v.wr l (v.z0 + k)).lo ≤ (withinS v.wr l (v.z0 + k)).hi) : cz v l (k + 1) = cz v l k := by
  unfold cz; rw [range_succ, zerosOf_snoc, foundZ, if_neg h, List.append_nil]
theorem cz_in {v : Vial} {l : List Mk} {k : Nat} (h : (withinS v.wr l (v.z0 + k)).lo ≤ (withinS v.wr l (v.z0 + k)).hi) : cz v l (k + 1) = cz v l k + 1 := by
  unfold cz; rw [range_succ, zerosOf_snoc, foundZ, if_pos h]; simp
theorem range_take (a : Int) (n k : Nat) (h : k ≤ n) : ∃ r, range a n = range a k ++ r := by
  refine ⟨(range a n).drop k, ?_⟩
  have e : range a k = (range a n).take k := by
    unfold range; rw [← List.map_take, List.take_range, Nat.min_eq_left h]
  rw [e, List.take_append_drop]
theorem zerosOf_append (v : Vial) (l : List Mk) (a b : List Int) : zerosOf v l (a ++ b) = zerosOf v l a ++ zerosOf v l b := by
  unfold zerosOf; rw [List.filterMap_append]
theorem zerosOf_at {v : Vial} {l : List Mk} {k : Nat} (h : (withinS v.wr l (v.z0 + k)).lo ≤ (withinS v.wr l (v.z0 + k)).hi) (hk : k < (v.z1 - v.z0 + 1).toNat) :
    (zerosOf v l (allZ v))[cz v l k]? = some (v.z0 + k, withinS v.wr l (v.z0 + k)) := by
  obtain ⟨r, hr⟩ := range_take v.z0 (v.z1 - v.z0 + 1).toNat (k + 1) (by omega)
  unfold allZ
  rw [hr, range_succ, zerosOf_append, zerosOf_snoc, foundZ, if_pos h, List.append_assoc]
  unfold cz
  simp
theorem cz_le {v : Vial} {l : List Mk} {k : Nat} (hk : k ≤ (v.z1 - v.z0 + 1).toNat) : cz v l k ≤ (zerosOf v l (allZ v)).length := by
  obtain ⟨r, hr⟩ := range_take v.z0 (v.z1 - v.z0 + 1).toNat k hk
  unfold allZ cz
  rw [hr, zerosOf_append]; simp
theorem cz_all (v : Vial) (l : List Mk) : cz v l (v.z1 - v.z0 + 1).toNat = (zerosOf v l (allZ v)).length := rfl
/-- What is known of the tilt behind so many readings. -/
def pS (w z : Int) (l : List Mk) (i : Nat) : Span := if i = 0 then ⟨0, 0⟩ else withinS w (l.take i) z
theorem pS_one {w z : Int} {l : List Mk} {x : Mk} (hw : 0 ≤ w ∧ w ≤ 8) (hz : 0 ≤ z ∧ z ≤ 400) (hx : 0 ≤ x.at' ∧ x.at' ≤ 400) (h : l[0]? = some x) : withinS w (l.take 1) z = ⟨outM x z - w, outM x z + w⟩ := by
  rw [withinS_snoc h]
  simp only [List.take_zero, withinS, List.foldl_nil, inS, Span.mk.injEq]
  simp only [outM]
  split <;> omega
end Go.Oc.Lv

/- Part Lz. -/
namespace Go.Oc.Lv
end Go.Oc.Lv
namespace Go.Proofs.Ytadkjjnnnkfalaa.Lv
end Go.Proofs.Ytadkjjnnnkfalaa.Lv
namespace Go.Proofs.Ytadkjjnnnkfalaa.Lv
open Go.RowKit Go.Pm Go.Oc Go.Oc.Lv
set_option maxRecDepth 100000
set_option linter.unusedVariables false
set_option maxHeartbeats 1000000

def zs (v : Vial) (l : List Mk) : List (List TV) := (zerosOf v l (allZ v)).map fun y => [.int .i64 y.1, y.2.t]
noncomputable def mth_boundsL := PLift.up (mth_of (P := Try.prog) (t := 220) (f := 152) (l := nameAt Try.f127 0) rfl (by kernel_rfl))
theorem mth_bounds : type_of% mth_boundsL.down := mth_boundsL.down
attribute [go_sem] mth_bounds
theorem zs_at {v : Vial} {l : List Mk} {k : Nat} (h : (withinS v.wr l (v.z0 + k)).lo ≤ (withinS v.wr l (v.z0 + k)).hi) (hk : k < (v.z1 - v.z0 + 1).toNat) :
    (zs v l)[cz v l k]? = some [.int .i64 (v.z0 + k), .agg [.int .i64 (withinS v.wr l (v.z0 + k)).lo, .int .i64 (withinS v.wr l (v.z0 + k)).hi]] := by
  unfold zs; rw [List.getElem?_map, zerosOf_at h hk]; rfl
theorem lZeros1_c (v : Vial) (l : List Mk) (full : Bool) (h1 : 1 ≤ l.length) (hv : v.ok = true) (hm : mksOk l = true) (hl : l.length ≤ 100) :
    Iter Try.prog 127 [] [.cptr v.cs, .cptr [.sl (l.flatMap Mk.als) l.length full]] (zs v l) := by
  refine iter_by Try.mixes spL3_ok (fn := Try.f127) Try.func127 rfl (by kernel_rfl) rfl (by show 3 ≤ _; decide) ?_
  intro y m stop hm1 hm2 hm3
  have hv' := Vial.ok_iff.1 hv
  have hzl : (zs v l).length = (zerosOf v l (allZ v)).length := by simp [zs]
  simp (decide := true) (maxSteps := 4000000) only [go_sem, Nat.reduceAdd, Nat.reduceSub, Nat.reduceMul, Nat.reduceDiv, Nat.reduceMod, Nat.reduceLT, Nat.reduceLeDiff, Nat.reduceEqDiff, Nat.reduceBEq, Nat.reduceBNe, Nat.reduceGT, Int.reduceAdd, Int.reduceSub, Int.reduceMul, Int.reduceNeg, Int.reduceLT, Int.reduceLE, Int.reduceEq, Int.reduceNe, Int.reduceBEq, Int.reduceBNe, Int.reduceToNat, Int.reduceGT, Int.reduceGE, ↓reduceIte, decide_true, decide_false, Try.f127, Vial.cs]
  refine pwpC_loop (A := { k : Nat // k ≤ (v.z1 - v.z0 + 1).toNat ∧ (stop = true → cz v l k < m) }) (fun k => { env := [(4, .t (.int .i64 (v.z0 + k.1))), (0, .yld y), (1, .t (.cptr v.cs)), (2, .t (.cptr [.sl (l.flatMap Mk.als) l.length full]))], heap := [.cnt (cz v l k.1)] }) (fun k => (v.z1 - v.z0 + 1).toNat - k.1) ⟨0, by omega, fun h => by rw [cz_zero]; exact hm3 h⟩ ?_ (fun k => by rfl) fun ⟨k, hk, hst⟩ => ?_
  · simp (decide := true) (maxSteps := 4000000) only [go_sem, Nat.reduceAdd, Nat.reduceSub, Nat.reduceMul, Nat.reduceDiv, Nat.reduceMod, Nat.reduceLT, Nat.reduceLeDiff, Nat.reduceEqDiff, Nat.reduceBEq, Nat.reduceBNe, Nat.reduceGT, Int.reduceAdd, Int.reduceSub, Int.reduceMul, Int.reduceNeg, Int.reduceLT, Int.reduceLE, Int.reduceEq, Int.reduceNe, Int.reduceBEq, Int.reduceBNe, Int.reduceToNat, Int.reduceGT, Int.reduceGE, ↓reduceIte, decide_true, decide_false, Vial.cs, cz_zero]
    omega
  · by_cases hlt : v.z0 + k ≤ v.z1
    · have hz : 0 ≤ v.z0 + (k : Int) ∧ v.z0 + (k : Int) ≤ 400 := by omega
      have hw : 0 ≤ v.wr ∧ v.wr ≤ 8 := hv'.2.2.2.2
      have hkN : k < (v.z1 - v.z0 + 1).toNat := by omega
      have hz1 : IntKind.i64.wrap (v.z0 + k + 1) = v.z0 + ((k + 1 : Nat) : Int) := by rw [wrap_in (by omega) (by omega)]; omega
      simp (decide := true) (maxSteps := 4000000) only [go_sem, Nat.reduceAdd, Nat.reduceSub, Nat.reduceMul, Nat.reduceDiv, Nat.reduceMod, Nat.reduceLT, Nat.reduceLeDiff, Nat.reduceEqDiff, Nat.reduceBEq, Nat.reduceBNe, Nat.reduceGT, Int.reduceAdd, Int.reduceSub, Int.reduceMul, Int.reduceNeg, Int.reduceLT, Int.reduceLE, Int.reduceEq, Int.reduceNe, Int.reduceBEq, Int.reduceBNe, Int.reduceToNat, Int.reduceGT, Int.reduceGE, ↓reduceIte, decide_true, decide_false, hlt, Vial.cs]
      refine pwpC_loop (A := { i : Nat // i ≤ l.length ∧ (0 < i → (pS v.wr (v.z0 + k) l i).lo ≤ (pS v.wr (v.z0 + k) l i).hi) }) (fun i => { env := [(23, .t (.int .i64 i.1)), (22, .t (.int .i64 l.length)), (21, .t (.sl (l.flatMap Mk.als) l.length full)), (5, .ptr 1 0), (4, .t (.int .i64 (v.z0 + k))), (0, .yld y), (1, .t (.cptr v.cs)), (2, .t (.cptr [.sl (l.flatMap Mk.als) l.length full]))], heap := [.cnt (cz v l k), .box [.t (.int .i64 (pS v.wr (v.z0 + k) l i.1).lo), .t (.int .i64 (pS v.wr (v.z0 + k) l i.1).hi)]] }) (fun i => l.length - i.1) ⟨0, by omega, by omega⟩ ?_ (fun _ => by rfl) fun ⟨i, hi, hle⟩ => ?_
      · simp (decide := true) (maxSteps := 4000000) only [go_sem, Nat.reduceAdd, Nat.reduceSub, Nat.reduceMul, Nat.reduceDiv, Nat.reduceMod, Nat.reduceLT, Nat.reduceLeDiff, Nat.reduceEqDiff, Nat.reduceBEq, Nat.reduceBNe, Nat.reduceGT, Int.reduceAdd, Int.reduceSub, Int.reduceMul, Int.reduceNeg, Int.reduceLT, Int.reduceLE, Int.reduceEq, Int.reduceNe, Int.reduceBEq, Int.reduceBNe, Int.reduceToNat, Int.reduceGT, Int.reduceGE, ↓reduceIte, decide_true, decide_false, Vial.cs, pS]
      · by_cases hil : (i : Int) < l.length
        · obtain ⟨x, hx⟩ := get_lt hil
          have hd := flat_at Mk.als (n := 1) (fun _ => rfl) hx
          have hxm : inB x.at' 0 400 = true := List.all_eq_true.1 hm x (List.mem_of_getElem? hx)
          have hxm' := inB_iff.1 hxm
          have hi1 : IntKind.i64.wrap (i + 1) = ((i + 1 : Nat) : Int) := by rw [wrap_in (by omega) (by omega)]; omega
          have hn1 : pS v.wr (v.z0 + k) l (i + 1) = withinS v.wr (l.take (i + 1)) (v.z0 + k) := by unfold pS; rw [if_neg (by omega)]
          have htk := withinS_take (w := v.wr) (z := v.z0 + k) l (i + 1)
          rcases Nat.eq_zero_or_pos i with h0 | h0
          · subst h0
            have hw1 := pS_one hw hz hxm' hx
            rw [Nat.zero_add] at hn1 htk
            rw [hw1] at hn1 htk
            simp only at htk
            obtain ⟨a, tu⟩ := x
            have hgt : ∀ n : Int, ¬ n - v.wr > n + v.wr := fun n => by omega
            have hd1 : l.length - 1 < l.length := by omega
            cases tu <;> simp only [outM, if_true, if_false, Bool.false_eq_true] at hn1 <;> simp (decide := true) (maxSteps := 4000000) only [go_sem, Nat.reduceAdd, Nat.reduceSub, Nat.reduceMul, Nat.reduceDiv, Nat.reduceMod, Nat.reduceLT, Nat.reduceLeDiff, Nat.reduceEqDiff, Nat.reduceBEq, Nat.reduceBNe, Nat.reduceGT, Int.reduceAdd, Int.reduceSub, Int.reduceMul, Int.reduceNeg, Int.reduceLT, Int.reduceLE, Int.reduceEq, Int.reduceNe, Int.reduceBEq, Int.reduceBNe, Int.reduceToNat, Int.reduceGT, Int.reduceGE, ↓reduceIte, decide_true, decide_false, hil, hd, Mk.als, Mk.al, Vial.cs, hxm, hz, hw, hgt]
            all_goals refine ⟨⟨1, by omega, fun _ => ?_⟩, ?_⟩
            all_goals first | (rw [hn1]; simp only; omega) | (simp (decide := true) (maxSteps := 4000000) only [go_sem, Nat.reduceAdd, Nat.reduceSub, Nat.reduceMul, Nat.reduceDiv, Nat.reduceMod, Nat.reduceLT, Nat.reduceLeDiff, Nat.reduceEqDiff, Nat.reduceBEq, Nat.reduceBNe, Nat.reduceGT, Int.reduceAdd, Int.reduceSub, Int.reduceMul, Int.reduceNeg, Int.reduceLT, Int.reduceLE, Int.reduceEq, Int.reduceNe, Int.reduceBEq, Int.reduceBNe, Int.reduceToNat, Int.reduceGT, Int.reduceGE, ↓reduceIte, decide_true, decide_false, hn1, hd1])
          · have hi0 : (i : Int) > 0 := by omega
            have hs := withinS_snoc (w := v.wr) (z := v.z0 + k) hx
            have hpi : pS v.wr (v.z0 + k) l i = withinS v.wr (l.take i) (v.z0 + k) := by unfold pS; rw [if_neg (by omega)]
            rw [hs] at hn1 htk
            have hd1 : l.length - (i + 1) < l.length - i := by omega
            by_cases hgt : (inS v.wr (v.z0 + k) (withinS v.wr (l.take i) (v.z0 + k)) x).lo > (inS v.wr (v.z0 + k) (withinS v.wr (l.take i) (v.z0 + k)) x).hi
            · have hcz : cz v l (k + 1) = cz v l k := cz_out (by omega)
              obtain ⟨a, tu⟩ := x
              cases tu <;> simp only [inS, outM, if_true, if_false, Bool.false_eq_true] at hgt <;> simp (decide := true) (maxSteps := 4000000) only [go_sem, Nat.reduceAdd, Nat.reduceSub, Nat.reduceMul, Nat.reduceDiv, Nat.reduceMod, Nat.reduceLT, Nat.reduceLeDiff, Nat.reduceEqDiff, Nat.reduceBEq, Nat.reduceBNe, Nat.reduceGT, Int.reduceAdd, Int.reduceSub, Int.reduceMul, Int.reduceNeg, Int.reduceLT, Int.reduceLE, Int.reduceEq, Int.reduceNe, Int.reduceBEq, Int.reduceBNe, Int.reduceToNat, Int.reduceGT, Int.reduceGE, ↓reduceIte, decide_true, decide_false, hil, hi0, hd, Mk.als, Mk.al, Vial.cs, hxm, hz, hw, hpi, hgt]
              all_goals refine ⟨⟨k + 1, by omega, fun h => by rw [hcz]; exact hst h⟩, ?_⟩
              all_goals simp (decide := true) (maxSteps := 4000000) only [go_sem, Nat.reduceAdd, Nat.reduceSub, Nat.reduceMul, Nat.reduceDiv, Nat.reduceMod, Nat.reduceLT, Nat.reduceLeDiff, Nat.reduceEqDiff, Nat.reduceBEq, Nat.reduceBNe, Nat.reduceGT, Int.reduceAdd, Int.reduceSub, Int.reduceMul, Int.reduceNeg, Int.reduceLT, Int.reduceLE, Int.reduceEq, Int.reduceNe, Int.reduceBEq, Int.reduceBNe, Int.reduceToNat, Int.reduceGT, Int.reduceGE, ↓reduceIte, decide_true, decide_false, hz1, hcz, Vial.cs]
              all_goals omega
            · obtain ⟨a, tu⟩ := x
              have hle' : (inS v.wr (v.z0 + k) (withinS v.wr (l.take i) (v.z0 + k)) ⟨a, tu⟩).lo ≤ (inS v.wr (v.z0 + k) (withinS v.wr (l.take i) (v.z0 + k)) ⟨a, tu⟩).hi := by omega
              cases tu <;> simp only [inS, outM, if_true, if_false, Bool.false_eq_true] at hgt <;> simp (decide := true) (maxSteps := 4000000) only [go_sem, Nat.reduceAdd, Nat.reduceSub, Nat.reduceMul, Nat.reduceDiv, Nat.reduceMod, Nat.reduceLT, Nat.reduceLeDiff, Nat.reduceEqDiff, Nat.reduceBEq, Nat.reduceBNe, Nat.reduceGT, Int.reduceAdd, Int.reduceSub, Int.reduceMul, Int.reduceNeg, Int.reduceLT, Int.reduceLE, Int.reduceEq, Int.reduceNe, Int.reduceBEq, Int.reduceBNe, Int.reduceToNat, Int.reduceGT, Int.reduceGE, ↓reduceIte, decide_true, decide_false, hil, hi0, hd, Mk.als, Mk.al, Vial.cs, hxm, hz, hw, hpi, hgt]
              all_goals refine ⟨⟨i + 1, by omega, fun _ => by rw [hn1]; exact hle'⟩, ?_⟩
              all_goals simp (decide := true) (maxSteps := 4000000) only [go_sem, Nat.reduceAdd, Nat.reduceSub, Nat.reduceMul, Nat.reduceDiv, Nat.reduceMod, Nat.reduceLT, Nat.reduceLeDiff, Nat.reduceEqDiff, Nat.reduceBEq, Nat.reduceBNe, Nat.reduceGT, Int.reduceAdd, Int.reduceSub, Int.reduceMul, Int.reduceNeg, Int.reduceLT, Int.reduceLE, Int.reduceEq, Int.reduceNe, Int.reduceBEq, Int.reduceBNe, Int.reduceToNat, Int.reduceGT, Int.reduceGE, ↓reduceIte, decide_true, decide_false, hi1, hn1, inS, outM, hd1, Vial.cs]
        · have hil' : i = l.length := by omega
          subst hil'
          have hpl : pS v.wr (v.z0 + k) l l.length = withinS v.wr l (v.z0 + k) := by unfold pS; rw [if_neg (by omega), List.take_length]
          have hin := hle (by omega)
          rw [hpl] at hin
          have hcz := cz_in hin
          have hat := zs_at hin hkN
          have hc1 := cz_le (v := v) (l := l) (k := k + 1) (by omega)
          have hcm : cz v l k < m := by
            cases stop with
            | true => exact hst rfl
            | false => rw [hm2 rfl, hzl]; omega
          by_cases hs : (stop && cz v l k + 1 == m) = true
          · have hs' := hs
            simp only [Bool.and_eq_true, beq_iff_eq] at hs'
            simp (decide := true) (maxSteps := 4000000) only [go_sem, Nat.reduceAdd, Nat.reduceSub, Nat.reduceMul, Nat.reduceDiv, Nat.reduceMod, Nat.reduceLT, Nat.reduceLeDiff, Nat.reduceEqDiff, Nat.reduceBEq, Nat.reduceBNe, Nat.reduceGT, Int.reduceAdd, Int.reduceSub, Int.reduceMul, Int.reduceNeg, Int.reduceLT, Int.reduceLE, Int.reduceEq, Int.reduceNe, Int.reduceBEq, Int.reduceBNe, Int.reduceToNat, Int.reduceGT, Int.reduceGE, ↓reduceIte, decide_true, decide_false, hil, hpl, hat, hcm, hs, hs'.1, hs'.2, Vial.cs]
          · have hs0 : (stop && cz v l k + 1 == m) = false := by simpa using hs
            simp (decide := true) (maxSteps := 4000000) only [go_sem, Nat.reduceAdd, Nat.reduceSub, Nat.reduceMul, Nat.reduceDiv, Nat.reduceMod, Nat.reduceLT, Nat.reduceLeDiff, Nat.reduceEqDiff, Nat.reduceBEq, Nat.reduceBNe, Nat.reduceGT, Int.reduceAdd, Int.reduceSub, Int.reduceMul, Int.reduceNeg, Int.reduceLT, Int.reduceLE, Int.reduceEq, Int.reduceNe, Int.reduceBEq, Int.reduceBNe, Int.reduceToNat, Int.reduceGT, Int.reduceGE, ↓reduceIte, decide_true, decide_false, hil, hpl, hat, hcm, hs0, Vial.cs]
            refine ⟨⟨k + 1, by omega, fun h => ?_⟩, ?_⟩
            · rw [hcz]; subst h; simp at hs0; omega
            · simp (decide := true) (maxSteps := 4000000) only [go_sem, Nat.reduceAdd, Nat.reduceSub, Nat.reduceMul, Nat.reduceDiv, Nat.reduceMod, Nat.reduceLT, Nat.reduceLeDiff, Nat.reduceEqDiff, Nat.reduceBEq, Nat.reduceBNe, Nat.reduceGT, Int.reduceAdd, Int.reduceSub, Int.reduceMul, Int.reduceNeg, Int.reduceLT, Int.reduceLE, Int.reduceEq, Int.reduceNe, Int.reduceBEq, Int.reduceBNe, Int.reduceToNat, Int.reduceGT, Int.reduceGE, ↓reduceIte, decide_true, decide_false, hz1, hcz, Vial.cs]
              omega
    · simp (decide := true) (maxSteps := 4000000) only [go_sem, Nat.reduceAdd, Nat.reduceSub, Nat.reduceMul, Nat.reduceDiv, Nat.reduceMod, Nat.reduceLT, Nat.reduceLeDiff, Nat.reduceEqDiff, Nat.reduceBEq, Nat.reduceBNe, Nat.reduceGT, Int.reduceAdd, Int.reduceSub, Int.reduceMul, Int.reduceNeg, Int.reduceLT, Int.reduceLE, Int.reduceEq, Int.reduceNe, Int.reduceBEq, Int.reduceBNe, Int.reduceToNat, Int.reduceGT, Int.reduceGE, ↓reduceIte, decide_true, decide_false, hlt, Vial.cs]
      have hkN : k = (v.z1 - v.z0 + 1).toNat := by omega
      subst hkN
      cases stop with
      | false => rw [hm2 rfl, hzl, cz_all]
      | true => have := hst rfl; rw [cz_all] at this; omega
end Go.Proofs.Ytadkjjnnnkfalaa.Lv

/- Part La. -/
namespace Go.Oc.Lv
end Go.Oc.Lv
namespace Go.Proofs.Ytadkjjnnnkfalaa.Lv
end Go.Proofs.Ytadkjjnnnkfalaa.Lv
namespace Go.Proofs.Ytadkjjnnnkfalaa.Lv
open Go.RowKit Go.Pm Go.Oc Go.Oc.Lv
set_option maxRecDepth 100000
set_option linter.unusedVariables false
set_option maxHeartbeats 1000000

theorem lEnds1_c (a b : Int) (full : Bool) : PCalls Try.prog 111 [.int .i64 a, .sl [.int .i64 b] 1 full] (.tup [.int .i64 (min a b), .int .i64 (max a b)]) := lEnds_c a [b] full (by simp)
noncomputable def glEnds : List TV → Option TV
  | [.int .i64 a, .sl [.int .i64 b] 1 full] => some (.tup [.int .i64 (min a b), .int .i64 (max a b)])
  | _ => none
theorem glEnds_ok : ∀ xs r, glEnds xs = some r → PCalls Try.prog 111 xs r := by
  intro xs r h
  unfold glEnds at h
  split at h
  · cases h; exact lEnds1_c _ _ _
  · cases h
attribute [go_sem] glEnds
noncomputable def glZeros : List TV → Option TV
  | [.agg [.int .i64 m, .int .i64 a, .int .i64 b, .int .i64 c, .int .i64 d, .int .i64 e, .int .i64 f, .int .i64 g], .sl cs n full] => some (.fn 127 [] [.cptr (Vial.cs ⟨m, a, b, c, d, e, f, g⟩), .cptr [.sl cs n full]])
  | _ => none
theorem glZeros_ok : ∀ xs r, glZeros xs = some r → PCalls Try.prog 110 xs r := by
  intro xs r h
  unfold glZeros at h
  split at h
  · cases h; exact lZeros_c ⟨_, _, _, _, _, _, _, _⟩ _ ⟨_, _, _, rfl⟩
  · cases h
attribute [go_sem] glZeros
noncomputable def spL4 : Pm.Spec := (spL3.one 111 glEnds).one 110 glZeros
@[go_sem] theorem spL4_p (f : FuncId) (xs : List TV) : spL4.p f xs = Pm.Spec.p ((spL3.one 111 glEnds).one 110 glZeros) f xs := rfl
@[go_sem] theorem spL4_h (f : FuncId) (ps : List PV) (hl : List PO) : spL4.h f ps hl = Pm.Spec.h ((spL3.one 111 glEnds).one 110 glZeros) f ps hl := rfl
@[go_sem] theorem spL4_y (Y : Pm.YS) (f : FuncId) (ps : List PV) (hl : List PO) : spL4.y Y f ps hl = Pm.Spec.y ((spL3.one 111 glEnds).one 110 glZeros) Y f ps hl := rfl
@[go_sem] theorem spL4_fz (f : FuncId) : spL4.fz f = Pm.Spec.fz ((spL3.one 111 glEnds).one 110 glZeros) f := rfl
@[go_sem] theorem spL4_fr (f : FuncId) : spL4.fr f = Pm.Spec.fr ((spL3.one 111 glEnds).one 110 glZeros) f := rfl
@[go_sem] theorem spL4_yf (f : FuncId) : spL4.yf f = Pm.Spec.yf ((spL3.one 111 glEnds).one 110 glZeros) f := rfl
@[go_sem] theorem spL4_mu (t : TypeId) : spL4.mu t = Pm.Spec.mu ((spL3.one 111 glEnds).one 110 glZeros) t := rfl
@[go_sem] theorem spL4_nf (t : TypeId) : spL4.nf t = Pm.Spec.nf ((spL3.one 111 glEnds).one 110 glZeros) t := rfl
theorem spL4_ok : SpecOk Try.prog spL4 := Spec.one_ok glZeros_ok (Spec.one_ok glEnds_ok spL3_ok)

/-- What is known of the tilt behind so many zeros that can be. -/
def tk (v : Vial) (l : List Mk) (i : Nat) : TZ := tiltsOf v ((zerosOf v l (allZ v)).take i)
theorem tk_succ {v : Vial} {l : List Mk} {i : Nat} {y : Int × Span} (h : (zerosOf v l (allZ v))[i]? = some y) : tk v l (i + 1) = tiltStep v (tk v l i) y := by
  unfold tk tiltsOf; rw [take_snoc h, List.foldl_append]; rfl
theorem zerosOf_mem {v : Vial} {l : List Mk} {y : Int × Span} (h : y ∈ zerosOf v l (allZ v)) : y.2 = withinS v.wr l y.1 ∧ y.2.lo ≤ y.2.hi ∧ v.z0 ≤ y.1 ∧ y.1 ≤ v.z1 := by
  unfold zerosOf allZ range at h
  simp only [List.mem_filterMap, List.mem_map, List.mem_range] at h
  obtain ⟨z, ⟨k, hk, rfl⟩, h⟩ := h
  split at h
  · rename_i hle; cases h; exact ⟨rfl, hle, by simp only; omega, by simp only; omega⟩
  · cases h
theorem lTilts_c (v : Vial) (l : List Mk) (full : Bool) (h1 : 1 ≤ l.length) (hv : v.ok = true) (hm : mksOk l = true) (hl : l.length ≤ 100) :
    PCalls Try.prog 72 [v.t, .sl (l.flatMap Mk.als) l.length full] (tilts v l).t := by
  have hv' := Vial.ok_iff.1 hv
  refine pcalls_by Try.mixes spL4_ok (fn := Try.f72) Try.func72 rfl (by kernel_rfl) (by show 2 ≤ _; decide) ?_
  simp (decide := true) (maxSteps := 4000000) only [go_sem, Nat.reduceAdd, Nat.reduceSub, Nat.reduceMul, Nat.reduceDiv, Nat.reduceMod, Nat.reduceLT, Nat.reduceLeDiff, Nat.reduceEqDiff, Nat.reduceBEq, Nat.reduceBNe, Nat.reduceGT, Int.reduceAdd, Int.reduceSub, Int.reduceMul, Int.reduceNeg, Int.reduceLT, Int.reduceLE, Int.reduceEq, Int.reduceNe, Int.reduceBEq, Int.reduceBNe, Int.reduceToNat, Int.reduceGT, Int.reduceGE, ↓reduceIte, decide_true, decide_false, Try.f72, Vial.t, Vial.cs]
  refine pwpC_range rfl 127 [] [.cptr v.cs, .cptr [.sl (l.flatMap Mk.als) l.length full]] (zs v l) [(15, .t (.fn 127 [] [.cptr v.cs, .cptr [.sl (l.flatMap Mk.als) l.length full]])), (2, .ptr 0 0), (4, .ptr 1 0), (5, .ptr 2 0), (6, .ptr 3 0)]
    (fun i => [.box (v.cs.map .t), .box ((tk v l i).tilt.cs.map .t), .box ((tk v l i).zero.cs.map .t), .box [.t (.bool (tk v l i).is)]]) 4 ?_ (by rfl) (by rfl) ?_ (lZeros1_c v l full h1 hv hm hl) ?_ (fun i => by simp) (fun i => rfl) (fun i x hx => ?_) ?_
  · simp (decide := true) (maxSteps := 4000000) only [go_sem, Nat.reduceAdd, Nat.reduceSub, Nat.reduceMul, Nat.reduceDiv, Nat.reduceMod, Nat.reduceLT, Nat.reduceLeDiff, Nat.reduceEqDiff, Nat.reduceBEq, Nat.reduceBNe, Nat.reduceGT, Int.reduceAdd, Int.reduceSub, Int.reduceMul, Int.reduceNeg, Int.reduceLT, Int.reduceLE, Int.reduceEq, Int.reduceNe, Int.reduceBEq, Int.reduceBNe, Int.reduceToNat, Int.reduceGT, Int.reduceGE, ↓reduceIte, decide_true, decide_false, Vial.cs, Span.cs, tk, tiltsOf]
  · simp (decide := true) (maxSteps := 4000000) only [go_sem, Nat.reduceAdd, Nat.reduceSub, Nat.reduceMul, Nat.reduceDiv, Nat.reduceMod, Nat.reduceLT, Nat.reduceLeDiff, Nat.reduceEqDiff, Nat.reduceBEq, Nat.reduceBNe, Nat.reduceGT, Int.reduceAdd, Int.reduceSub, Int.reduceMul, Int.reduceNeg, Int.reduceLT, Int.reduceLE, Int.reduceEq, Int.reduceNe, Int.reduceBEq, Int.reduceBNe, Int.reduceToNat, Int.reduceGT, Int.reduceGE, ↓reduceIte, decide_true, decide_false, Vial.cs]
  · intro x hx
    unfold zs at hx
    obtain ⟨y, _, rfl⟩ := List.mem_map.1 hx
    rfl
  · unfold zs at hx
    simp only [List.getElem?_map, Option.map_eq_some_iff] at hx
    obtain ⟨y, hy, rfl⟩ := hx
    obtain ⟨hy1, hy2, hy3, hy4⟩ := zerosOf_mem (List.mem_of_getElem? hy)
    have hb := withinS_bound (w := v.wr) (z := y.1) (by omega) (by omega) (l := l) (s := ⟨-10000, 10000⟩) hm (by simp)
    have hwi : withinS v.wr l y.1 = l.foldl (inS v.wr y.1) ⟨-10000, 10000⟩ := rfl
    rw [← hwi, ← hy1] at hb
    have p1 := mulB (a := y.2.lo) (b := v.v0) (by omega) (by omega)
    have p2 := mulB (a := y.2.lo) (b := v.v1) (by omega) (by omega)
    have p3 := mulB (a := y.2.hi) (b := v.v0) (by omega) (by omega)
    have p4 := mulB (a := y.2.hi) (b := v.v1) (by omega) (by omega)
    have w1 : IntKind.i64.wrap (v.v0 * y.2.lo) = y.2.lo * v.v0 := by rw [Int.mul_comm]; exact wrap_in (by omega) (by omega)
    have w2 : IntKind.i64.wrap (v.v1 * y.2.lo) = y.2.lo * v.v1 := by rw [Int.mul_comm]; exact wrap_in (by omega) (by omega)
    have w3 : IntKind.i64.wrap (v.v0 * y.2.hi) = y.2.hi * v.v0 := by rw [Int.mul_comm]; exact wrap_in (by omega) (by omega)
    have w4 : IntKind.i64.wrap (v.v1 * y.2.hi) = y.2.hi * v.v1 := by rw [Int.mul_comm]; exact wrap_in (by omega) (by omega)
    have hlm := least_most hv hy2
    unfold leastP mostP at hlm
    have hs := tk_succ hy
    cases his : (tk v l i).is
    · simp (decide := true) (maxSteps := 4000000) only [go_sem, Nat.reduceAdd, Nat.reduceSub, Nat.reduceMul, Nat.reduceDiv, Nat.reduceMod, Nat.reduceLT, Nat.reduceLeDiff, Nat.reduceEqDiff, Nat.reduceBEq, Nat.reduceBNe, Nat.reduceGT, Int.reduceAdd, Int.reduceSub, Int.reduceMul, Int.reduceNeg, Int.reduceLT, Int.reduceLE, Int.reduceEq, Int.reduceNe, Int.reduceBEq, Int.reduceBNe, Int.reduceToNat, Int.reduceGT, Int.reduceGE, ↓reduceIte, decide_true, decide_false, Vial.cs, Span.cs, Span.t, w1, w2, w3, w4, his, hs, tiltStep, leastP, mostP]
      omega
    · simp (decide := true) (maxSteps := 4000000) only [go_sem, Nat.reduceAdd, Nat.reduceSub, Nat.reduceMul, Nat.reduceDiv, Nat.reduceMod, Nat.reduceLT, Nat.reduceLeDiff, Nat.reduceEqDiff, Nat.reduceBEq, Nat.reduceBNe, Nat.reduceGT, Int.reduceAdd, Int.reduceSub, Int.reduceMul, Int.reduceNeg, Int.reduceLT, Int.reduceLE, Int.reduceEq, Int.reduceNe, Int.reduceBEq, Int.reduceBNe, Int.reduceToNat, Int.reduceGT, Int.reduceGE, ↓reduceIte, decide_true, decide_false, Vial.cs, Span.cs, Span.t, w1, w2, w3, w4, his, hs, tiltStep, leastP, mostP]
  · have he : tk v l (zs v l).length = tilts v l := by unfold tk zs tilts; rw [List.length_map, List.take_length]
    simp (decide := true) (maxSteps := 4000000) only [go_sem, Nat.reduceAdd, Nat.reduceSub, Nat.reduceMul, Nat.reduceDiv, Nat.reduceMod, Nat.reduceLT, Nat.reduceLeDiff, Nat.reduceEqDiff, Nat.reduceBEq, Nat.reduceBNe, Nat.reduceGT, Int.reduceAdd, Int.reduceSub, Int.reduceMul, Int.reduceNeg, Int.reduceLT, Int.reduceLE, Int.reduceEq, Int.reduceNe, Int.reduceBEq, Int.reduceBNe, Int.reduceToNat, Int.reduceGT, Int.reduceGE, ↓reduceIte, decide_true, decide_false, he, Vial.cs, Span.cs, TZ.t, Span.t]
noncomputable def glTilts : List TV → Option TV
  | [.agg [.int .i64 m, .int .i64 a, .int .i64 b, .int .i64 c, .int .i64 d, .int .i64 e, .int .i64 f, .int .i64 g], s] => match rowL unAls s with
    | some l => if 1 ≤ l.length ∧ Vial.ok ⟨m, a, b, c, d, e, f, g⟩ = true ∧ mksOk l = true ∧ l.length ≤ 100 then some ((tilts ⟨m, a, b, c, d, e, f, g⟩ l).t) else none
    | none => none
  | _ => none
theorem glTilts_ok : ∀ xs r, glTilts xs = some r → PCalls Try.prog 72 xs r := by
  intro xs r h
  unfold glTilts at h
  split at h
  · split at h
    · rename_i l hl
      have hl := rowL_some (un := unAls) (by first | rfl | exact unAls_nil) (@unAls_some) hl
      split at h
      · rename_i hc; cases h; exact (by obtain ⟨h0, h1, h2, h3⟩ := hc; obtain ⟨full, rfl⟩ := hl.ne h0; exact lTilts_c ⟨_, _, _, _, _, _, _, _⟩ _ _ h0 h1 h2 h3)
      · cases h
    · cases h
  · cases h
attribute [go_sem] glTilts
noncomputable def spL5 : Pm.Spec := spL4.one 72 glTilts
@[go_sem] theorem spL5_p (f : FuncId) (xs : List TV) : spL5.p f xs = Pm.Spec.p (spL4.one 72 glTilts) f xs := rfl
@[go_sem] theorem spL5_h (f : FuncId) (ps : List PV) (hl : List PO) : spL5.h f ps hl = Pm.Spec.h (spL4.one 72 glTilts) f ps hl := rfl
@[go_sem] theorem spL5_y (Y : Pm.YS) (f : FuncId) (ps : List PV) (hl : List PO) : spL5.y Y f ps hl = Pm.Spec.y (spL4.one 72 glTilts) Y f ps hl := rfl
@[go_sem] theorem spL5_fz (f : FuncId) : spL5.fz f = Pm.Spec.fz (spL4.one 72 glTilts) f := rfl
@[go_sem] theorem spL5_fr (f : FuncId) : spL5.fr f = Pm.Spec.fr (spL4.one 72 glTilts) f := rfl
@[go_sem] theorem spL5_yf (f : FuncId) : spL5.yf f = Pm.Spec.yf (spL4.one 72 glTilts) f := rfl
@[go_sem] theorem spL5_mu (t : TypeId) : spL5.mu t = Pm.Spec.mu (spL4.one 72 glTilts) t := rfl
@[go_sem] theorem spL5_nf (t : TypeId) : spL5.nf t = Pm.Spec.nf (spL4.one 72 glTilts) t := rfl
theorem spL5_ok : SpecOk Try.prog spL5 := Spec.one_ok glTilts_ok spL4_ok
end Go.Proofs.Ytadkjjnnnkfalaa.Lv

/- Part Lb. -/
namespace Go.Oc.Lv
end Go.Oc.Lv
namespace Go.Proofs.Ytadkjjnnnkfalaa.Lv
end Go.Proofs.Ytadkjjnnnkfalaa.Lv
namespace Go.Proofs.Ytadkjjnnnkfalaa.Lv
open Go.RowKit Go.Pm Go.Oc Go.Oc.Lv
set_option maxRecDepth 100000
set_option linter.unusedVariables false
set_option maxHeartbeats 1000000

theorem openedT_no {v : Vial} {l : List Rd} (h : asked v l ≠ 0) : ∃ u : Vial, openedT v l = .tup [u.t, .nilSl, .int .i64 (asked v l)] := by
  unfold openedT asked at *
  cases hv : v.ok
  · exact ⟨⟨0, 0, 0, 0, 0, 0, 0, 0⟩, by simp⟩
  · cases hr : rdsOk v l
    · exact ⟨v, by simp⟩
    · simp [hv, hr] at h
theorem openedT_yes {v : Vial} {l : List Rd} (h : asked v l = 0) : openedT v l = .tup [v.t, .sl ((l.map mid).flatMap Mk.als) l.length false, .int .i64 0] := by
  obtain ⟨hv, hr⟩ := asked_zero h
  unfold openedT; simp [hv, hr]
/-- A row as it comes in: not too long. -/
def Len24 {α : Type} (l : List α) : Prop := l.length ≤ 5864062014806
theorem lTilt_c (v : Vial) {l : List Rd} {s : TV} (hs : IsRow Rd.cs s l) (hl : l.length ≤ 5864062014806) : PCalls Try.prog 33 [v.t, s] (tiltR v l).t := by
  refine pcalls_by Try.mixes spL5_ok (fn := Try.f33) Try.func33 rfl (by kernel_rfl) (by show 2 ≤ _; decide) ?_
  unfold tiltR
  by_cases hk : asked v l = 0
  · obtain ⟨hv, hr⟩ := asked_zero hk
    have hm := mksOk_mid hv hr
    have h8 := rdsOk_len hr
    have h100 : l.length ≤ 100 := by omega
    have ho := openedT_yes hk
    obtain ⟨full, rfl⟩ := hs.ne h8.1
    cases hi : (tilts v (l.map mid)).is <;> simp (decide := true) (maxSteps := 4000000) only [go_sem, Nat.reduceAdd, Nat.reduceSub, Nat.reduceMul, Nat.reduceDiv, Nat.reduceMod, Nat.reduceLT, Nat.reduceLeDiff, Nat.reduceEqDiff, Nat.reduceBEq, Nat.reduceBNe, Nat.reduceGT, Int.reduceAdd, Int.reduceSub, Int.reduceMul, Int.reduceNeg, Int.reduceLT, Int.reduceLE, Int.reduceEq, Int.reduceNe, Int.reduceBEq, Int.reduceBNe, Int.reduceToNat, Int.reduceGT, Int.reduceGE, ↓reduceIte, decide_true, decide_false, Try.f33, Vial.t, Vial.cs, hk, hl, ho, hv, h8.1, h8.2, h100, hm, List.length_map, TZ.t, Span.t, Span.cs, hi, TE.t]
  · obtain ⟨u, ho⟩ := openedT_no hk
    have hk' : (asked v l != 0) = true := by simpa using hk
    rcases hs with ⟨rfl, rfl⟩ | ⟨full, rfl⟩ <;> simp (decide := true) (maxSteps := 4000000) only [go_sem, Nat.reduceAdd, Nat.reduceSub, Nat.reduceMul, Nat.reduceDiv, Nat.reduceMod, Nat.reduceLT, Nat.reduceLeDiff, Nat.reduceEqDiff, Nat.reduceBEq, Nat.reduceBNe, Nat.reduceGT, Int.reduceAdd, Int.reduceSub, Int.reduceMul, Int.reduceNeg, Int.reduceLT, Int.reduceLE, Int.reduceEq, Int.reduceNe, Int.reduceBEq, Int.reduceBNe, Int.reduceToNat, Int.reduceGT, Int.reduceGE, ↓reduceIte, decide_true, decide_false, Try.f33, Vial.t, Vial.cs, unRds, hl, ho, hk, hk', TE.t, Span.t, Span.cs]
def canB (v : Vial) (l : List Mk) (tv tz tt : Int) : Bool := l.all fun m => inB tt (tv * (outM m tz - v.wr)) (tv * (outM m tz + v.wr))
/-- What Can hands back. -/
def canP (v : Vial) (l : List Rd) (tv tz tt : Int) : Bool × Int :=
  if asked v l = 0 then (if inB tv v.v0 v.v1 = true ∧ inB tz v.z0 v.z1 = true then (canB v (l.map mid) tv tz tt, 0) else (false, 32)) else (false, asked v l)
theorem lCan_c (v : Vial) {l : List Rd} {s : TV} (hs : IsRow Rd.cs s l) (hl : l.length ≤ 5864062014806) (tv tz tt : Int) : PCalls Try.prog 32 [v.t, s, .agg [.int .i64 tv, .int .i64 tz, .int .i64 tt]] (.tup [.bool (canP v l tv tz tt).1, .int .i64 (canP v l tv tz tt).2]) := by
  refine pcalls_by Try.mixes spL5_ok (fn := Try.f32) Try.func32 rfl (by kernel_rfl) (by show 3 ≤ _; decide) ?_
  unfold canP
  by_cases hk : asked v l = 0
  · obtain ⟨hv, hr⟩ := asked_zero hk
    have hv' := Vial.ok_iff.1 hv
    have hm := mksOk_mid hv hr
    have h8 := rdsOk_len hr
    have h100 : l.length ≤ 100 := by omega
    have ho := openedT_yes hk
    obtain ⟨full, rfl⟩ := hs.ne h8.1
    cases h1 : inB tv v.v0 v.v1 with
    | false => simp (decide := true) (maxSteps := 4000000) only [go_sem, Nat.reduceAdd, Nat.reduceSub, Nat.reduceMul, Nat.reduceDiv, Nat.reduceMod, Nat.reduceLT, Nat.reduceLeDiff, Nat.reduceEqDiff, Nat.reduceBEq, Nat.reduceBNe, Nat.reduceGT, Int.reduceAdd, Int.reduceSub, Int.reduceMul, Int.reduceNeg, Int.reduceLT, Int.reduceLE, Int.reduceEq, Int.reduceNe, Int.reduceBEq, Int.reduceBNe, Int.reduceToNat, Int.reduceGT, Int.reduceGE, ↓reduceIte, decide_true, decide_false, Try.f32, Vial.t, Vial.cs, hk, hl, ho, h1]
    | true =>
      cases h2 : inB tz v.z0 v.z1 with
      | false => simp (decide := true) (maxSteps := 4000000) only [go_sem, Nat.reduceAdd, Nat.reduceSub, Nat.reduceMul, Nat.reduceDiv, Nat.reduceMod, Nat.reduceLT, Nat.reduceLeDiff, Nat.reduceEqDiff, Nat.reduceBEq, Nat.reduceBNe, Nat.reduceGT, Int.reduceAdd, Int.reduceSub, Int.reduceMul, Int.reduceNeg, Int.reduceLT, Int.reduceLE, Int.reduceEq, Int.reduceNe, Int.reduceBEq, Int.reduceBNe, Int.reduceToNat, Int.reduceGT, Int.reduceGE, ↓reduceIte, decide_true, decide_false, Try.f32, Vial.t, Vial.cs, hk, hl, ho, h1, h2]
      | true =>
        have h1' := inB_iff.1 h1
        have h2' := inB_iff.1 h2
        have hz : 0 ≤ tz ∧ tz ≤ 400 := by omega
        have hw : 0 ≤ v.wr ∧ v.wr ≤ 8 := hv'.2.2.2.2
        simp (decide := true) (maxSteps := 4000000) only [go_sem, Nat.reduceAdd, Nat.reduceSub, Nat.reduceMul, Nat.reduceDiv, Nat.reduceMod, Nat.reduceLT, Nat.reduceLeDiff, Nat.reduceEqDiff, Nat.reduceBEq, Nat.reduceBNe, Nat.reduceGT, Int.reduceAdd, Int.reduceSub, Int.reduceMul, Int.reduceNeg, Int.reduceLT, Int.reduceLE, Int.reduceEq, Int.reduceNe, Int.reduceBEq, Int.reduceBNe, Int.reduceToNat, Int.reduceGT, Int.reduceGE, ↓reduceIte, decide_true, decide_false, Try.f32, Vial.t, Vial.cs, hk, hl, ho, h1, h2]
        refine pwpC_loop (A := { k : Nat // k ≤ l.length ∧ canB v ((l.map mid).take k) tv tz tt = true }) (fun k => { env := [(52, .t (.int .i64 k.1)), (51, .t (.int .i64 l.length)), (50, .t (.sl ((l.map mid).flatMap Mk.als) l.length false)), (8, .ptr 2 0), (5, .ptr 1 0)], heap := [.box (v.cs.map .t), .box [.t (.int .i64 tv), .t (.int .i64 tz), .t (.int .i64 tt)], .box (v.cs.map .t)] }) (fun k => l.length - k.1) ⟨0, by omega, rfl⟩ ?_ (fun k => by rfl) fun ⟨k, hk1, hk2⟩ => ?_
        · simp (decide := true) (maxSteps := 4000000) only [go_sem, Nat.reduceAdd, Nat.reduceSub, Nat.reduceMul, Nat.reduceDiv, Nat.reduceMod, Nat.reduceLT, Nat.reduceLeDiff, Nat.reduceEqDiff, Nat.reduceBEq, Nat.reduceBNe, Nat.reduceGT, Int.reduceAdd, Int.reduceSub, Int.reduceMul, Int.reduceNeg, Int.reduceLT, Int.reduceLE, Int.reduceEq, Int.reduceNe, Int.reduceBEq, Int.reduceBNe, Int.reduceToNat, Int.reduceGT, Int.reduceGE, ↓reduceIte, decide_true, decide_false, Vial.cs]
        · by_cases hlt : (k : Int) < l.length
          · have hlt' : (k : Int) < (l.map mid).length := by simpa using hlt
            obtain ⟨x, hx⟩ := get_lt hlt'
            have hd := flat_at Mk.als (n := 1) (fun _ => rfl) hx
            have hxm : inB x.at' 0 400 = true := List.all_eq_true.1 hm x (List.mem_of_getElem? hx)
            have hxm' := inB_iff.1 hxm
            have hc1 : IntKind.i64.wrap (k + 1) = ((k + 1 : Nat) : Int) := by rw [wrap_in (by omega) (by omega)]; omega
            have hd1 : l.length - (k + 1) < l.length - k := by omega
            have ho1 : -1000 ≤ outM x tz ∧ outM x tz ≤ 1000 := by unfold outM; split <;> omega
            have p1 := mulB (a := outM x tz - v.wr) (b := tv) (by omega) (by omega)
            have p2 := mulB (a := outM x tz + v.wr) (b := tv) (by omega) (by omega)
            have w1 : IntKind.i64.wrap (tv * (outM x tz - v.wr)) = tv * (outM x tz - v.wr) := by rw [Int.mul_comm]; exact wrap_in (by omega) (by omega)
            have w2 : IntKind.i64.wrap (tv * (outM x tz + v.wr)) = tv * (outM x tz + v.wr) := by rw [Int.mul_comm]; exact wrap_in (by omega) (by omega)
            have htk := take_all (fun m => inB tt (tv * (outM m tz - v.wr)) (tv * (outM m tz + v.wr))) hx
            cases hb : inB tt (tv * (outM x tz - v.wr)) (tv * (outM x tz + v.wr)) with
            | false =>
              have hf : canB v (l.map mid) tv tz tt = false := by
                unfold canB
                refine all_of_take (k := k + 1) ?_
                rw [htk, hb, Bool.and_false]
              obtain ⟨a, tu⟩ := x
              cases tu <;> simp only [outM, if_true, if_false, Bool.false_eq_true] at w1 w2 hb <;> simp (decide := true) (maxSteps := 4000000) only [go_sem, Nat.reduceAdd, Nat.reduceSub, Nat.reduceMul, Nat.reduceDiv, Nat.reduceMod, Nat.reduceLT, Nat.reduceLeDiff, Nat.reduceEqDiff, Nat.reduceBEq, Nat.reduceBNe, Nat.reduceGT, Int.reduceAdd, Int.reduceSub, Int.reduceMul, Int.reduceNeg, Int.reduceLT, Int.reduceLE, Int.reduceEq, Int.reduceNe, Int.reduceBEq, Int.reduceBNe, Int.reduceToNat, Int.reduceGT, Int.reduceGE, ↓reduceIte, decide_true, decide_false, hlt, hd, Mk.als, Mk.al, Vial.cs, hxm, hz, hw, w1, w2, hb, hf]
            | true =>
              have ht : canB v ((l.map mid).take (k + 1)) tv tz tt = true := by
                unfold canB at hk2 ⊢
                rw [htk, hb, hk2]; rfl
              obtain ⟨a, tu⟩ := x
              cases tu <;> simp only [outM, if_true, if_false, Bool.false_eq_true] at w1 w2 hb <;> simp (decide := true) (maxSteps := 4000000) only [go_sem, Nat.reduceAdd, Nat.reduceSub, Nat.reduceMul, Nat.reduceDiv, Nat.reduceMod, Nat.reduceLT, Nat.reduceLeDiff, Nat.reduceEqDiff, Nat.reduceBEq, Nat.reduceBNe, Nat.reduceGT, Int.reduceAdd, Int.reduceSub, Int.reduceMul, Int.reduceNeg, Int.reduceLT, Int.reduceLE, Int.reduceEq, Int.reduceNe, Int.reduceBEq, Int.reduceBNe, Int.reduceToNat, Int.reduceGT, Int.reduceGE, ↓reduceIte, decide_true, decide_false, hlt, hd, Mk.als, Mk.al, Vial.cs, hxm, hz, hw, w1, w2, hb]
              all_goals refine ⟨⟨k + 1, by omega, ht⟩, ?_⟩
              all_goals simp (decide := true) (maxSteps := 4000000) only [go_sem, Nat.reduceAdd, Nat.reduceSub, Nat.reduceMul, Nat.reduceDiv, Nat.reduceMod, Nat.reduceLT, Nat.reduceLeDiff, Nat.reduceEqDiff, Nat.reduceBEq, Nat.reduceBNe, Nat.reduceGT, Int.reduceAdd, Int.reduceSub, Int.reduceMul, Int.reduceNeg, Int.reduceLT, Int.reduceLE, Int.reduceEq, Int.reduceNe, Int.reduceBEq, Int.reduceBNe, Int.reduceToNat, Int.reduceGT, Int.reduceGE, ↓reduceIte, decide_true, decide_false, hc1, hd1, Vial.cs]
          · have hkl : k = (l.map mid).length := by rw [List.length_map]; omega
            rw [hkl, List.take_length] at hk2
            simp (decide := true) (maxSteps := 4000000) only [go_sem, Nat.reduceAdd, Nat.reduceSub, Nat.reduceMul, Nat.reduceDiv, Nat.reduceMod, Nat.reduceLT, Nat.reduceLeDiff, Nat.reduceEqDiff, Nat.reduceBEq, Nat.reduceBNe, Nat.reduceGT, Int.reduceAdd, Int.reduceSub, Int.reduceMul, Int.reduceNeg, Int.reduceLT, Int.reduceLE, Int.reduceEq, Int.reduceNe, Int.reduceBEq, Int.reduceBNe, Int.reduceToNat, Int.reduceGT, Int.reduceGE, ↓reduceIte, decide_true, decide_false, hlt, hk2]
  · obtain ⟨u, ho⟩ := openedT_no hk
    have hk' : (asked v l != 0) = true := by simpa using hk
    rcases hs with ⟨rfl, rfl⟩ | ⟨full, rfl⟩ <;> simp (decide := true) (maxSteps := 4000000) only [go_sem, Nat.reduceAdd, Nat.reduceSub, Nat.reduceMul, Nat.reduceDiv, Nat.reduceMod, Nat.reduceLT, Nat.reduceLeDiff, Nat.reduceEqDiff, Nat.reduceBEq, Nat.reduceBNe, Nat.reduceGT, Int.reduceAdd, Int.reduceSub, Int.reduceMul, Int.reduceNeg, Int.reduceLT, Int.reduceLE, Int.reduceEq, Int.reduceNe, Int.reduceBEq, Int.reduceBNe, Int.reduceToNat, Int.reduceGT, Int.reduceGE, ↓reduceIte, decide_true, decide_false, Try.f32, Vial.t, Vial.cs, unRds, hl, ho, hk, hk']
end Go.Proofs.Ytadkjjnnnkfalaa.Lv

/- Part Sa. -/
namespace Go.Proofs.Ytadkjjnnnkfalaa.Sx
end Go.Proofs.Ytadkjjnnnkfalaa.Sx
namespace Go.Os
open Go Go.Pm Go.Oc Go.Oh

structure Sx where
  step : Int
  tab : List Span
  idx : Span
  wrong : Int
  shade : List Span
def Sx.cs (x : Sx) (sT sS : TV) : List TV := [.int .i64 x.step, sT, .int .i64 x.idx.lo, .int .i64 x.idx.hi, .int .i64 x.wrong, sS]
def Sx.t (x : Sx) (sT sS : TV) : TV := .agg (x.cs sT sS)
def sxOk (x : Sx) : Bool := inB x.step 1 72000 && (inB x.tab.length 2 12 && (x.tab.all (spannedB · (-600) 600) && (decide (x.step * (x.tab.length - 1) ≤ 504000) && (spannedB x.idx (-1800) 1800 && (inB x.wrong 0 60 && (decide ((x.shade.length : Int) ≤ 6) && x.shade.all (spannedB · (-120) 120)))))))
theorem spannedB_iff {s : Span} {a b : Int} : spannedB s a b = true ↔ a ≤ s.lo ∧ s.lo ≤ s.hi ∧ s.hi ≤ b := by simp [spannedB, and_assoc]
structure GoodS (x : Sx) : Prop where
  st : 1 ≤ x.step ∧ x.step ≤ 72000
  len : 2 ≤ x.tab.length ∧ x.tab.length ≤ 12
  tab : ∀ s ∈ x.tab, -600 ≤ s.lo ∧ s.lo ≤ s.hi ∧ s.hi ≤ 600
  long : x.step * (x.tab.length - 1) ≤ 504000
  idx : -1800 ≤ x.idx.lo ∧ x.idx.lo ≤ x.idx.hi ∧ x.idx.hi ≤ 1800
  wr : 0 ≤ x.wrong ∧ x.wrong ≤ 60
  sh : x.shade.length ≤ 6
  shade : ∀ s ∈ x.shade, -120 ≤ s.lo ∧ s.lo ≤ s.hi ∧ s.hi ≤ 120
theorem sxOk_iff {x : Sx} : sxOk x = true ↔ GoodS x := by
  unfold sxOk
  simp only [Bool.and_eq_true, inB_iff, decide_eq_true_eq, List.all_eq_true, spannedB_iff]
  constructor
  · rintro ⟨a, b, c, d, e, f, g, h⟩; exact ⟨a, ⟨by omega, by omega⟩, c, d, e, f, by omega, h⟩
  · rintro ⟨a, b, c, d, e, f, g, h⟩; exact ⟨a, ⟨by omega, by omega⟩, c, d, e, f, by omega, h⟩
/-- The span at a place. -/
def atS (l : List Span) (k : Nat) : Span := l.getD k ⟨0, 0⟩
theorem atS_eq {l : List Span} {k : Nat} {x : Span} (h : l[k]? = some x) : atS l k = x := by
  unfold atS; rw [List.getD_eq_getElem?_getD, h]; rfl
/-- Between what the correction at an angle lies. -/
def corr (step : Int) (l : List Span) (at' : Int) : Span :=
  let k := (at' / step).toNat; let d := at' % step
  if d = 0 then atS l k else ⟨((atS l k).lo * (step - d) + (atS l (k + 1)).lo * d) / step, ((atS l k).hi * (step - d) + (atS l (k + 1)).hi * d) / step⟩
def last (x : Sx) : Int := x.step * (x.tab.length - 1)
theorem last_b {x : Sx} (h : GoodS x) : 1 ≤ last x ∧ last x ≤ 504000 := by
  refine ⟨?_, h.long⟩
  have h1 := h.len; have h2 := h.st
  have := Int.mul_le_mul h2.1 (show (1 : Int) ≤ (x.tab.length : Int) - 1 by omega) (by omega) (by omega)
  unfold last; omega
def isRd (x : Sx) (at' sh : Int) : Bool := inB at' 0 (last x) && inB sh 0 (2 ^ x.shade.length - 1)
/-- The place of an angle in the table. -/
structure InTab (step : Int) (n : Nat) (at' : Int) : Prop where
  k0 : 0 ≤ at' / step
  kn : (at' / step).toNat < n
  d0 : 0 ≤ at' % step
  ds : at' % step < step
  kd : at' % step ≠ 0 → (at' / step).toNat + 1 < n
theorem inTab {step : Int} {n : Nat} {at' : Int} (hs : 1 ≤ step) (hn : 1 ≤ n) (h0 : 0 ≤ at') (h1 : at' ≤ step * (n - 1)) : InTab step n at' := by
  have e1 := Int.emod_nonneg at' (show step ≠ 0 by omega)
  have e2 := Int.emod_lt_of_pos at' (show 0 < step by omega)
  have e3 := Int.mul_ediv_add_emod at' step
  have q0 : 0 ≤ at' / step := Int.ediv_nonneg h0 (by omega)
  have q1 : at' / step ≤ (n : Int) - 1 := by
    have := Int.ediv_le_ediv (show 0 < step by omega) h1
    rwa [Int.mul_ediv_cancel_left _ (by omega)] at this
  refine ⟨q0, by omega, e1, e2, fun hd => ?_⟩
  have q2 : at' / step ≠ (n : Int) - 1 := fun e => by
    rw [e] at e3; omega
  omega
theorem mulR {a b m n : Int} (ha : -m ≤ a ∧ a ≤ m) (hb : 0 ≤ b ∧ b ≤ n) (hm : 0 ≤ m) : -(m * n) ≤ a * b ∧ a * b ≤ m * n := by
  have h1 := Int.mul_le_mul_of_nonneg_right ha.2 hb.1
  have h2 := Int.mul_le_mul_of_nonneg_left hb.2 hm
  have h3 := Int.mul_le_mul_of_nonneg_right ha.1 hb.1
  have h4 : -m * b = -(m * b) := Int.neg_mul m b
  omega
/-- A weighted middle lies between. -/
theorem mid_b {a b d s m : Int} (ha : -m ≤ a ∧ a ≤ m) (hb : -m ≤ b ∧ b ≤ m) (hd : 0 ≤ d ∧ d < s) : -m ≤ (a * (s - d) + b * d) / s ∧ (a * (s - d) + b * d) / s ≤ m := by
  have hs : 0 < s := by omega
  have h1 := Int.mul_le_mul_of_nonneg_right ha.1 (show 0 ≤ s - d by omega)
  have h2 := Int.mul_le_mul_of_nonneg_right ha.2 (show 0 ≤ s - d by omega)
  have h3 := Int.mul_le_mul_of_nonneg_right hb.1 hd.1
  have h4 := Int.mul_le_mul_of_nonneg_right hb.2 hd.1
  have e1 : m * (s - d) + m * d = m * s := by rw [← Int.mul_add]; congr 1; omega
  have e2 : -m * (s - d) + -m * d = -m * s := by rw [← Int.mul_add]; congr 1; omega
  constructor
  · rw [Int.le_ediv_iff_mul_le hs]; omega
  · have := Int.ediv_le_ediv hs (show a * (s - d) + b * d ≤ m * s by omega)
    rwa [Int.mul_ediv_cancel _ (by omega)] at this
theorem atS_mem {l : List Span} {k : Nat} (h : k < l.length) : atS l k ∈ l := by
  rw [atS_eq (List.getElem?_eq_getElem h)]; exact List.getElem_mem h
theorem mid_le {a b a' b' d s : Int} (ha : a ≤ a') (hb : b ≤ b') (hd : 0 ≤ d ∧ d < s) : (a * (s - d) + b * d) / s ≤ (a' * (s - d) + b' * d) / s := by
  refine Int.ediv_le_ediv (by omega) ?_
  have h1 := Int.mul_le_mul_of_nonneg_right ha (show 0 ≤ s - d by omega)
  have h2 := Int.mul_le_mul_of_nonneg_right hb hd.1
  omega
theorem corr_b {step : Int} {l : List Span} {at' : Int} (ht : InTab step l.length at') (hl : ∀ s ∈ l, -600 ≤ s.lo ∧ s.lo ≤ s.hi ∧ s.hi ≤ 600) : -600 ≤ (corr step l at').lo ∧ (corr step l at').lo ≤ (corr step l at').hi ∧ (corr step l at').hi ≤ 600 := by
  have h1 := hl _ (atS_mem ht.kn)
  unfold corr
  simp only
  split
  · exact h1
  · rename_i hd
    have h2 := hl _ (atS_mem (ht.kd hd))
    have a := mid_b (a := (atS l (at' / step).toNat).lo) (b := (atS l ((at' / step).toNat + 1)).lo) (m := 600) (by omega) (by omega) ⟨ht.d0, ht.ds⟩
    have b := mid_b (a := (atS l (at' / step).toNat).hi) (b := (atS l ((at' / step).toNat + 1)).hi) (m := 600) (by omega) (by omega) ⟨ht.d0, ht.ds⟩
    exact ⟨a.1, mid_le h1.2.1 h2.2.1 ⟨ht.d0, ht.ds⟩, b.2⟩
def addS (a b : Span) : Span := ⟨a.lo + b.lo, a.hi + b.hi⟩
/-- What is read wrongly, and the shades that are used. -/
def shTo (x : Sx) (set : Nat) (k : Nat) : Span := (List.range k).foldl (fun s i => if set.testBit i then addS s (atS x.shade i) else s) ⟨-x.wrong, x.wrong⟩
def shs (x : Sx) (set : Nat) : Span := shTo x set x.shade.length
theorem shTo_succ (x : Sx) (set k : Nat) : shTo x set (k + 1) = if set.testBit k then addS (shTo x set k) (atS x.shade k) else shTo x set k := by
  unfold shTo; rw [List.range_succ, List.foldl_append]; rfl
theorem shTo_b {x : Sx} (h : GoodS x) (set : Nat) : ∀ k, k ≤ x.shade.length → -60 - 120 * (k : Int) ≤ (shTo x set k).lo ∧ (shTo x set k).lo ≤ (shTo x set k).hi ∧ (shTo x set k).hi ≤ 60 + 120 * (k : Int)
  | 0, _ => by have := h.wr; simp only [shTo, List.range_zero, List.foldl_nil]; omega
  | k + 1, hk => by
    have ih := shTo_b h set k (by omega)
    have hs := h.shade _ (atS_mem (show k < x.shade.length by omega))
    rw [shTo_succ]
    split
    · simp only [addS]; omega
    · omega
theorem shs_b {x : Sx} (h : GoodS x) (set : Nat) : -780 ≤ (shs x set).lo ∧ (shs x set).lo ≤ (shs x set).hi ∧ (shs x set).hi ≤ 780 := by
  have := shTo_b h set x.shade.length (Nat.le_refl _)
  have := h.sh
  unfold shs; omega
/-- Between what the true angle of a reading lies. -/
def readS (x : Sx) (at' : Int) (set : Nat) : Span := addS (addS (addS ⟨at', at'⟩ x.idx) (corr x.step x.tab at')) (shs x set)
/-- What Read returns. -/
def readP (x : Sx) (at' sh : Int) : Span × Int := if sxOk x then (if isRd x at' sh then (readS x at' sh.toNat, 0) else (⟨0, 0⟩, 51)) else (⟨0, 0⟩, 50)
theorem isRd_iff {x : Sx} {at' sh : Int} : isRd x at' sh = true ↔ (0 ≤ at' ∧ at' ≤ last x) ∧ 0 ≤ sh ∧ sh ≤ 2 ^ x.shade.length - 1 := by
  unfold isRd; rw [Bool.and_eq_true, inB_iff, inB_iff]
theorem rd_tab {x : Sx} (h : GoodS x) {at' : Int} (h0 : 0 ≤ at') (h1 : at' ≤ last x) : InTab x.step x.tab.length at' := inTab h.st.1 (by have := h.len; omega) h0 h1
theorem pow_len {n : Nat} (h : n ≤ 6) : (1 : Int) ≤ 2 ^ n ∧ (2 : Int) ^ n ≤ 64 := by
  rcases (show n = 0 ∨ n = 1 ∨ n = 2 ∨ n = 3 ∨ n = 4 ∨ n = 5 ∨ n = 6 by omega) with rfl | rfl | rfl | rfl | rfl | rfl | rfl <;> decide
/-- Shifting and masking, as far as shades go. -/
theorem bit_shade : ∀ s : Nat, s < 64 → ∀ k : Nat, k < 6 → (IntKind.i64.wrap ((BitVec.ofInt IntKind.i64.bits (Int.fdiv (s : Int) (2 ^ (min k IntKind.i64.bits))) &&& BitVec.ofInt IntKind.i64.bits 1).toNat) == 1) = s.testBit k := by decide +kernel
end Go.Os

/- Part Sb. -/
namespace Go.Proofs.Ytadkjjnnnkfalaa.Sx
end Go.Proofs.Ytadkjjnnnkfalaa.Sx
namespace Go.Proofs.Ytadkjjnnnkfalaa.Sx
open Go.RowKit Go.Pm Go.Oc Go.Oh Go.Os
set_option maxRecDepth 100000
set_option linter.unusedVariables false
set_option maxHeartbeats 4000000

theorem sWithin_c (n lo hi : Int) : PCalls Try.prog 83 [.int .i64 n, .int .i64 lo, .int .i64 hi] (.bool (inB n lo hi)) := by
  refine pcalls_by Try.mixes noSpec_ok (fn := Try.f83) Try.func83 rfl (by kernel_rfl) (by show 3 ≤ _; decide) ?_
  cases h1 : decide (lo ≤ n) <;> cases h2 : decide (n ≤ hi) <;> simp (decide := true) (maxSteps := 4000000) only [go_sem, Nat.reduceAdd, Nat.reduceSub, Nat.reduceMul, Nat.reduceDiv, Nat.reduceMod, Nat.reduceLT, Nat.reduceLeDiff, Nat.reduceEqDiff, Nat.reduceBEq, Nat.reduceBNe, Nat.reduceGT, Int.reduceAdd, Int.reduceSub, Int.reduceMul, Int.reduceNeg, Int.reduceLT, Int.reduceLE, Int.reduceEq, Int.reduceNe, Int.reduceBEq, Int.reduceBNe, Int.reduceToNat, Int.reduceGT, Int.reduceGE, ↓reduceIte, decide_true, decide_false, eq_self, Nat.mul_one, Nat.zero_mul, Nat.one_mul, Int.le_refl, Nat.le_refl, Int.cast_ofNat_Int, Try.f83, h1, h2, inB]
noncomputable def sxWithin : List TV → Option TV
  | [.int .i64 n, .int .i64 lo, .int .i64 hi] => some (.bool (inB n lo hi))
  | _ => none
theorem sxWithin_ok : ∀ xs r, sxWithin xs = some r → PCalls Try.prog 83 xs r := by
  intro xs r h
  unfold sxWithin at h
  split at h
  · cases h; exact sWithin_c _ _ _
  · cases h
attribute [go_sem] sxWithin
theorem sSpanned_c (s : Span) (lo hi : Int) : PCalls Try.prog 85 [s.t, .int .i64 lo, .int .i64 hi] (.bool (spannedB s lo hi)) := by
  refine pcalls_by Try.mixes noSpec_ok (fn := Try.f85) Try.func85 rfl (by kernel_rfl) (by show 3 ≤ _; decide) ?_
  cases h1 : decide (lo ≤ s.lo) <;> cases h2 : decide (s.lo ≤ s.hi) <;> cases h3 : decide (s.hi ≤ hi) <;> simp (decide := true) (maxSteps := 4000000) only [go_sem, Nat.reduceAdd, Nat.reduceSub, Nat.reduceMul, Nat.reduceDiv, Nat.reduceMod, Nat.reduceLT, Nat.reduceLeDiff, Nat.reduceEqDiff, Nat.reduceBEq, Nat.reduceBNe, Nat.reduceGT, Int.reduceAdd, Int.reduceSub, Int.reduceMul, Int.reduceNeg, Int.reduceLT, Int.reduceLE, Int.reduceEq, Int.reduceNe, Int.reduceBEq, Int.reduceBNe, Int.reduceToNat, Int.reduceGT, Int.reduceGE, ↓reduceIte, decide_true, decide_false, eq_self, Nat.mul_one, Nat.zero_mul, Nat.one_mul, Int.le_refl, Nat.le_refl, Int.cast_ofNat_Int, Try.f85, h1, h2, h3, spannedB, Span.t, Span.cs]
noncomputable def sxSpanned : List TV → Option TV
  | [.agg [.int .i64 a, .int .i64 b], .int .i64 lo, .int .i64 hi] => some (.bool (spannedB ⟨a, b⟩ lo hi))
  | _ => none
theorem sxSpanned_ok : ∀ xs r, sxSpanned xs = some r → PCalls Try.prog 85 xs r := by
  intro xs r h
  unfold sxSpanned at h
  split at h
  · cases h; exact sSpanned_c ⟨_, _⟩ _ _
  · cases h
attribute [go_sem] sxSpanned
noncomputable def spSa : Pm.Spec := ((noSpec.one 83 sxWithin).one 85 sxSpanned)
@[go_sem] theorem spSa_p (f : FuncId) (xs : List TV) : spSa.p f xs = Pm.Spec.p (((noSpec.one 83 sxWithin).one 85 sxSpanned)) f xs := rfl
@[go_sem] theorem spSa_h (f : FuncId) (ps : List PV) (hl : List PO) : spSa.h f ps hl = Pm.Spec.h (((noSpec.one 83 sxWithin).one 85 sxSpanned)) f ps hl := rfl
@[go_sem] theorem spSa_y (Y : Pm.YS) (f : FuncId) (ps : List PV) (hl : List PO) : spSa.y Y f ps hl = Pm.Spec.y (((noSpec.one 83 sxWithin).one 85 sxSpanned)) Y f ps hl := rfl
@[go_sem] theorem spSa_fz (f : FuncId) : spSa.fz f = Pm.Spec.fz (((noSpec.one 83 sxWithin).one 85 sxSpanned)) f := rfl
@[go_sem] theorem spSa_fr (f : FuncId) : spSa.fr f = Pm.Spec.fr (((noSpec.one 83 sxWithin).one 85 sxSpanned)) f := rfl
@[go_sem] theorem spSa_yf (f : FuncId) : spSa.yf f = Pm.Spec.yf (((noSpec.one 83 sxWithin).one 85 sxSpanned)) f := rfl
@[go_sem] theorem spSa_mu (t : TypeId) : spSa.mu t = Pm.Spec.mu (((noSpec.one 83 sxWithin).one 85 sxSpanned)) t := rfl
@[go_sem] theorem spSa_nf (t : TypeId) : spSa.nf t = Pm.Spec.nf (((noSpec.one 83 sxWithin).one 85 sxSpanned)) t := rfl
theorem spSa_ok : SpecOk Try.prog spSa := Spec.one_ok sxSpanned_ok (Spec.one_ok sxWithin_ok noSpec_ok)

/-- Where the first span is that does not lie within. -/
def idxBad (most : Int) (l : List Span) : Int := match l.findIdx? (fun s => !spannedB s (-most) most) with | some i => (i : Int) | none => -1
theorem idxBad_iff (most : Int) (l : List Span) : decide (idxBad most l ≥ 0) = !(l.all (spannedB · (-most) most)) := by
  unfold idxBad
  cases h : l.findIdx? (fun s => !spannedB s (-most) most) with
  | none =>
    rw [List.findIdx?_eq_none_iff] at h
    have : l.all (spannedB · (-most) most) = true := List.all_eq_true.2 fun s hs => by simpa using h s hs
    rw [this]; rfl
  | some i =>
    obtain ⟨hi, h1, _⟩ := List.findIdx?_eq_some_iff_getElem.1 h
    have : l.all (spannedB · (-most) most) = false := by
      rw [← Bool.not_eq_true, List.all_eq_true]
      intro hall
      rw [hall _ (List.getElem_mem hi)] at h1; cases h1
    rw [this]; simp
theorem sBad_c (s : Span) (most : Int) (h : 0 ≤ most ∧ most ≤ 1000000) : PCalls Try.prog 118 [s.t, .cptr [.int .i64 most]] (.bool (!spannedB s (-most) most)) := by
  have w : IntKind.i64.wrap (0 - most) = -most := by rw [wrap_in (by omega) (by omega)]; omega
  refine pcalls_by Try.mixes spSa_ok (fn := Try.f118) Try.func118 rfl (by kernel_rfl) (by show 2 ≤ _; decide) ?_
  simp (decide := true) (maxSteps := 4000000) only [go_sem, Nat.reduceAdd, Nat.reduceSub, Nat.reduceMul, Nat.reduceDiv, Nat.reduceMod, Nat.reduceLT, Nat.reduceLeDiff, Nat.reduceEqDiff, Nat.reduceBEq, Nat.reduceBNe, Nat.reduceGT, Int.reduceAdd, Int.reduceSub, Int.reduceMul, Int.reduceNeg, Int.reduceLT, Int.reduceLE, Int.reduceEq, Int.reduceNe, Int.reduceBEq, Int.reduceBNe, Int.reduceToNat, Int.reduceGT, Int.reduceGE, ↓reduceIte, decide_true, decide_false, eq_self, Nat.mul_one, Nat.zero_mul, Nat.one_mul, Int.le_refl, Nat.le_refl, Int.cast_ofNat_Int, Try.f118, w, Span.t, Span.cs]
noncomputable def sxBad : List TV → Option TV
  | [.agg [.int .i64 a, .int .i64 b], .cptr [.int .i64 most]] => if 0 ≤ most ∧ most ≤ 1000000 then some (.bool (!spannedB ⟨a, b⟩ (-most) most)) else none
  | _ => none
theorem sxBad_ok : ∀ xs r, sxBad xs = some r → PCalls Try.prog 118 xs r := by
  intro xs r h
  unfold sxBad at h
  split at h
  · split at h
    · rename_i hc; cases h; exact sBad_c ⟨_, _⟩ _ hc
    · cases h
  · cases h
attribute [go_sem] sxBad
noncomputable def spSb : Pm.Spec := spSa.one 118 sxBad
@[go_sem] theorem spSb_p (f : FuncId) (xs : List TV) : spSb.p f xs = Pm.Spec.p (spSa.one 118 sxBad) f xs := rfl
@[go_sem] theorem spSb_h (f : FuncId) (ps : List PV) (hl : List PO) : spSb.h f ps hl = Pm.Spec.h (spSa.one 118 sxBad) f ps hl := rfl
@[go_sem] theorem spSb_y (Y : Pm.YS) (f : FuncId) (ps : List PV) (hl : List PO) : spSb.y Y f ps hl = Pm.Spec.y (spSa.one 118 sxBad) Y f ps hl := rfl
@[go_sem] theorem spSb_fz (f : FuncId) : spSb.fz f = Pm.Spec.fz (spSa.one 118 sxBad) f := rfl
@[go_sem] theorem spSb_fr (f : FuncId) : spSb.fr f = Pm.Spec.fr (spSa.one 118 sxBad) f := rfl
@[go_sem] theorem spSb_yf (f : FuncId) : spSb.yf f = Pm.Spec.yf (spSa.one 118 sxBad) f := rfl
@[go_sem] theorem spSb_mu (t : TypeId) : spSb.mu t = Pm.Spec.mu (spSa.one 118 sxBad) t := rfl
@[go_sem] theorem spSb_nf (t : TypeId) : spSb.nf t = Pm.Spec.nf (spSa.one 118 sxBad) t := rfl
theorem spSb_ok : SpecOk Try.prog spSb := Spec.one_ok sxBad_ok spSa_ok
theorem sIndexFunc_c {l : List Span} {s : TV} (hl : IsRow Span.cs s l) (hll : l.length ≤ 9000000000000) (most : Int) (hm : 0 ≤ most ∧ most ≤ 1000000) : PCalls Try.prog 128 [s, .fn 118 [] [.cptr [.int .i64 most]]] (.int .i64 (idxBad most l)) := by
  refine pcalls_by Try.mixes spSb_ok (fn := Try.f128) Try.func128 rfl (by kernel_rfl) (by show 2 ≤ _; decide) ?_
  rcases hl with ⟨rfl, rfl⟩ | ⟨f, rfl⟩
  · simp (decide := true) (maxSteps := 4000000) only [go_sem, Nat.reduceAdd, Nat.reduceSub, Nat.reduceMul, Nat.reduceDiv, Nat.reduceMod, Nat.reduceLT, Nat.reduceLeDiff, Nat.reduceEqDiff, Nat.reduceBEq, Nat.reduceBNe, Nat.reduceGT, Int.reduceAdd, Int.reduceSub, Int.reduceMul, Int.reduceNeg, Int.reduceLT, Int.reduceLE, Int.reduceEq, Int.reduceNe, Int.reduceBEq, Int.reduceBNe, Int.reduceToNat, Int.reduceGT, Int.reduceGE, ↓reduceIte, decide_true, decide_false, eq_self, Nat.mul_one, Nat.zero_mul, Nat.one_mul, Int.le_refl, Nat.le_refl, Int.cast_ofNat_Int, Try.f128]
    refine pwpC_loopU (A := Unit) [0, 1, 4, 7] (fun _ => [(8, .t (.int .i64 0))]) (fun _ => []) (fun _ => 0) () (by decide) (fun _ => by rfl) ?_ fun Q1 hQ1 _ I1 hI1 => ?_
    · simp (decide := true) (maxSteps := 4000000) only [go_sem, Nat.reduceAdd, Nat.reduceSub, Nat.reduceMul, Nat.reduceDiv, Nat.reduceMod, Nat.reduceLT, Nat.reduceLeDiff, Nat.reduceEqDiff, Nat.reduceBEq, Nat.reduceBNe, Nat.reduceGT, Int.reduceAdd, Int.reduceSub, Int.reduceMul, Int.reduceNeg, Int.reduceLT, Int.reduceLE, Int.reduceEq, Int.reduceNe, Int.reduceBEq, Int.reduceBNe, Int.reduceToNat, Int.reduceGT, Int.reduceGE, ↓reduceIte, decide_true, decide_false, eq_self, Nat.mul_one, Nat.zero_mul, Nat.one_mul, Int.le_refl, Nat.le_refl, Int.cast_ofNat_Int]
    · simp (decide := true) (maxSteps := 4000000) only [go_sem, Nat.reduceAdd, Nat.reduceSub, Nat.reduceMul, Nat.reduceDiv, Nat.reduceMod, Nat.reduceLT, Nat.reduceLeDiff, Nat.reduceEqDiff, Nat.reduceBEq, Nat.reduceBNe, Nat.reduceGT, Int.reduceAdd, Int.reduceSub, Int.reduceMul, Int.reduceNeg, Int.reduceLT, Int.reduceLE, Int.reduceEq, Int.reduceNe, Int.reduceBEq, Int.reduceBNe, Int.reduceToNat, Int.reduceGT, Int.reduceGE, ↓reduceIte, decide_true, decide_false, eq_self, Nat.mul_one, Nat.zero_mul, Nat.one_mul, Int.le_refl, Nat.le_refl, Int.cast_ofNat_Int]
      refine hQ1 _ _ ?_
      simp (decide := true) (maxSteps := 4000000) only [go_sem, Nat.reduceAdd, Nat.reduceSub, Nat.reduceMul, Nat.reduceDiv, Nat.reduceMod, Nat.reduceLT, Nat.reduceLeDiff, Nat.reduceEqDiff, Nat.reduceBEq, Nat.reduceBNe, Nat.reduceGT, Int.reduceAdd, Int.reduceSub, Int.reduceMul, Int.reduceNeg, Int.reduceLT, Int.reduceLE, Int.reduceEq, Int.reduceNe, Int.reduceBEq, Int.reduceBNe, Int.reduceToNat, Int.reduceGT, Int.reduceGE, ↓reduceIte, decide_true, decide_false, eq_self, Nat.mul_one, Nat.zero_mul, Nat.one_mul, Int.le_refl, Nat.le_refl, Int.cast_ofNat_Int]
      first | done | rfl
  · simp (decide := true) (maxSteps := 4000000) only [go_sem, Nat.reduceAdd, Nat.reduceSub, Nat.reduceMul, Nat.reduceDiv, Nat.reduceMod, Nat.reduceLT, Nat.reduceLeDiff, Nat.reduceEqDiff, Nat.reduceBEq, Nat.reduceBNe, Nat.reduceGT, Int.reduceAdd, Int.reduceSub, Int.reduceMul, Int.reduceNeg, Int.reduceLT, Int.reduceLE, Int.reduceEq, Int.reduceNe, Int.reduceBEq, Int.reduceBNe, Int.reduceToNat, Int.reduceGT, Int.reduceGE, ↓reduceIte, decide_true, decide_false, eq_self, Nat.mul_one, Nat.zero_mul, Nat.one_mul, Int.le_refl, Nat.le_refl, Int.cast_ofNat_Int, Try.f128]
    refine pwpC_loopU (A := { k : Nat // k ≤ l.length ∧ ∀ i, i < k → spannedB (atS l i) (-most) most = true }) [0, 1, 4, 7] (fun k => [(8, .t (.int .i64 k.1))]) (fun _ => []) (fun k => l.length - k.1) ⟨0, by omega, by omega⟩ (by decide) (fun _ => by rfl) ?_ fun Q1 hQ1 ⟨k, hk, hno⟩ I1 hI1 => ?_
    · simp (decide := true) (maxSteps := 4000000) only [go_sem, Nat.reduceAdd, Nat.reduceSub, Nat.reduceMul, Nat.reduceDiv, Nat.reduceMod, Nat.reduceLT, Nat.reduceLeDiff, Nat.reduceEqDiff, Nat.reduceBEq, Nat.reduceBNe, Nat.reduceGT, Int.reduceAdd, Int.reduceSub, Int.reduceMul, Int.reduceNeg, Int.reduceLT, Int.reduceLE, Int.reduceEq, Int.reduceNe, Int.reduceBEq, Int.reduceBNe, Int.reduceToNat, Int.reduceGT, Int.reduceGE, ↓reduceIte, decide_true, decide_false, eq_self, Nat.mul_one, Nat.zero_mul, Nat.one_mul, Int.le_refl, Nat.le_refl, Int.cast_ofNat_Int]
    · by_cases hlt : (k : Int) < l.length
      · obtain ⟨x, hx⟩ := get_lt hlt
        have hd := flat_at Span.cs (n := 2) (fun _ => rfl) hx
        have hc1 : IntKind.i64.wrap (k + 1) = ((k + 1 : Nat) : Int) := by rw [wrap_in (by omega) (by omega)]; omega
        have hkl : k < l.length := by omega
        obtain ⟨x0, x1⟩ := x
        cases hb : spannedB ⟨x0, x1⟩ (-most) most with
        | false =>
          have e : idxBad most l = k := by
            unfold idxBad
            have : l.findIdx? (fun s => !spannedB s (-most) most) = some k := List.findIdx?_eq_some_iff_getElem.2 ⟨hkl, by
              rw [List.getElem?_eq_getElem hkl] at hx; rw [Option.some.inj hx, hb]; rfl, fun j hj => by
              have := hno j hj
              rw [atS_eq (List.getElem?_eq_getElem (show j < l.length by omega))] at this
              rw [this]; decide⟩
            rw [this]
          simp (decide := true) (maxSteps := 4000000) only [go_sem, Nat.reduceAdd, Nat.reduceSub, Nat.reduceMul, Nat.reduceDiv, Nat.reduceMod, Nat.reduceLT, Nat.reduceLeDiff, Nat.reduceEqDiff, Nat.reduceBEq, Nat.reduceBNe, Nat.reduceGT, Int.reduceAdd, Int.reduceSub, Int.reduceMul, Int.reduceNeg, Int.reduceLT, Int.reduceLE, Int.reduceEq, Int.reduceNe, Int.reduceBEq, Int.reduceBNe, Int.reduceToNat, Int.reduceGT, Int.reduceGE, ↓reduceIte, decide_true, decide_false, eq_self, Nat.mul_one, Nat.zero_mul, Nat.one_mul, Int.le_refl, Nat.le_refl, Int.cast_ofNat_Int, hlt, hd, hb, hm, Span.cs]
          try (refine hQ1 _ _ ?_)
          try simp (decide := true) (maxSteps := 4000000) only [go_sem, Nat.reduceAdd, Nat.reduceSub, Nat.reduceMul, Nat.reduceDiv, Nat.reduceMod, Nat.reduceLT, Nat.reduceLeDiff, Nat.reduceEqDiff, Nat.reduceBEq, Nat.reduceBNe, Nat.reduceGT, Int.reduceAdd, Int.reduceSub, Int.reduceMul, Int.reduceNeg, Int.reduceLT, Int.reduceLE, Int.reduceEq, Int.reduceNe, Int.reduceBEq, Int.reduceBNe, Int.reduceToNat, Int.reduceGT, Int.reduceGE, ↓reduceIte, decide_true, decide_false, eq_self, Nat.mul_one, Nat.zero_mul, Nat.one_mul, Int.le_refl, Nat.le_refl, Int.cast_ofNat_Int, e]
        | true =>
          simp (decide := true) (maxSteps := 4000000) only [go_sem, Nat.reduceAdd, Nat.reduceSub, Nat.reduceMul, Nat.reduceDiv, Nat.reduceMod, Nat.reduceLT, Nat.reduceLeDiff, Nat.reduceEqDiff, Nat.reduceBEq, Nat.reduceBNe, Nat.reduceGT, Int.reduceAdd, Int.reduceSub, Int.reduceMul, Int.reduceNeg, Int.reduceLT, Int.reduceLE, Int.reduceEq, Int.reduceNe, Int.reduceBEq, Int.reduceBNe, Int.reduceToNat, Int.reduceGT, Int.reduceGE, ↓reduceIte, decide_true, decide_false, eq_self, Nat.mul_one, Nat.zero_mul, Nat.one_mul, Int.le_refl, Nat.le_refl, Int.cast_ofNat_Int, hlt, hd, hb, hm, Span.cs]
          refine hI1 _ ⟨k + 1, by omega, fun i hi => by
            by_cases e : i = k
            · subst e; rw [atS_eq hx]; exact hb
            · exact hno i (by omega)⟩ (by simp only; omega) ?_
          simp (decide := true) (maxSteps := 4000000) only [go_sem, Nat.reduceAdd, Nat.reduceSub, Nat.reduceMul, Nat.reduceDiv, Nat.reduceMod, Nat.reduceLT, Nat.reduceLeDiff, Nat.reduceEqDiff, Nat.reduceBEq, Nat.reduceBNe, Nat.reduceGT, Int.reduceAdd, Int.reduceSub, Int.reduceMul, Int.reduceNeg, Int.reduceLT, Int.reduceLE, Int.reduceEq, Int.reduceNe, Int.reduceBEq, Int.reduceBNe, Int.reduceToNat, Int.reduceGT, Int.reduceGE, ↓reduceIte, decide_true, decide_false, eq_self, Nat.mul_one, Nat.zero_mul, Nat.one_mul, Int.le_refl, Nat.le_refl, Int.cast_ofNat_Int, hc1]
      · have hke : k = l.length := by omega
        subst hke
        have e : idxBad most l = -1 := by
          unfold idxBad
          have : l.findIdx? (fun s => !spannedB s (-most) most) = none := List.findIdx?_eq_none_iff.2 fun s hs => by
            obtain ⟨i, hi, rfl⟩ := List.getElem_of_mem hs
            have := hno i hi
            rw [atS_eq (List.getElem?_eq_getElem hi)] at this
            rw [this]; rfl
          rw [this]
        simp (decide := true) (maxSteps := 4000000) only [go_sem, Nat.reduceAdd, Nat.reduceSub, Nat.reduceMul, Nat.reduceDiv, Nat.reduceMod, Nat.reduceLT, Nat.reduceLeDiff, Nat.reduceEqDiff, Nat.reduceBEq, Nat.reduceBNe, Nat.reduceGT, Int.reduceAdd, Int.reduceSub, Int.reduceMul, Int.reduceNeg, Int.reduceLT, Int.reduceLE, Int.reduceEq, Int.reduceNe, Int.reduceBEq, Int.reduceBNe, Int.reduceToNat, Int.reduceGT, Int.reduceGE, ↓reduceIte, decide_true, decide_false, eq_self, Nat.mul_one, Nat.zero_mul, Nat.one_mul, Int.le_refl, Nat.le_refl, Int.cast_ofNat_Int, hlt]
        refine hQ1 _ _ ?_
        simp (decide := true) (maxSteps := 4000000) only [go_sem, Nat.reduceAdd, Nat.reduceSub, Nat.reduceMul, Nat.reduceDiv, Nat.reduceMod, Nat.reduceLT, Nat.reduceLeDiff, Nat.reduceEqDiff, Nat.reduceBEq, Nat.reduceBNe, Nat.reduceGT, Int.reduceAdd, Int.reduceSub, Int.reduceMul, Int.reduceNeg, Int.reduceLT, Int.reduceLE, Int.reduceEq, Int.reduceNe, Int.reduceBEq, Int.reduceBNe, Int.reduceToNat, Int.reduceGT, Int.reduceGE, ↓reduceIte, decide_true, decide_false, eq_self, Nat.mul_one, Nat.zero_mul, Nat.one_mul, Int.le_refl, Nat.le_refl, Int.cast_ofNat_Int, e]
noncomputable def sxIndexFunc : List TV → Option TV
  | [s, .fn F [] [.cptr [.int .i64 most]]] => match rowL unS s with
    | some l => if l.length ≤ 9000000000000 ∧ F = 118 ∧ 0 ≤ most ∧ most ≤ 1000000 then some (.int .i64 (idxBad most l)) else none
    | none => none
  | _ => none
theorem sxIndexFunc_ok : ∀ xs r, sxIndexFunc xs = some r → PCalls Try.prog 128 xs r := by
  intro xs r h
  unfold sxIndexFunc at h
  split at h
  · split at h
    · rename_i l hl
      have hl := rowL_some (un := unS) unS_nil (@unS_some) hl
      split at h
      · rename_i hc; cases h
        obtain ⟨h1, rfl, h2⟩ := hc
        exact sIndexFunc_c hl h1 _ h2
      · cases h
    · cases h
  · cases h
attribute [go_sem] sxIndexFunc
noncomputable def spSc : Pm.Spec := spSb.one 128 sxIndexFunc
@[go_sem] theorem spSc_p (f : FuncId) (xs : List TV) : spSc.p f xs = Pm.Spec.p (spSb.one 128 sxIndexFunc) f xs := rfl
@[go_sem] theorem spSc_h (f : FuncId) (ps : List PV) (hl : List PO) : spSc.h f ps hl = Pm.Spec.h (spSb.one 128 sxIndexFunc) f ps hl := rfl
@[go_sem] theorem spSc_y (Y : Pm.YS) (f : FuncId) (ps : List PV) (hl : List PO) : spSc.y Y f ps hl = Pm.Spec.y (spSb.one 128 sxIndexFunc) Y f ps hl := rfl
@[go_sem] theorem spSc_fz (f : FuncId) : spSc.fz f = Pm.Spec.fz (spSb.one 128 sxIndexFunc) f := rfl
@[go_sem] theorem spSc_fr (f : FuncId) : spSc.fr f = Pm.Spec.fr (spSb.one 128 sxIndexFunc) f := rfl
@[go_sem] theorem spSc_yf (f : FuncId) : spSc.yf f = Pm.Spec.yf (spSb.one 128 sxIndexFunc) f := rfl
@[go_sem] theorem spSc_mu (t : TypeId) : spSc.mu t = Pm.Spec.mu (spSb.one 128 sxIndexFunc) t := rfl
@[go_sem] theorem spSc_nf (t : TypeId) : spSc.nf t = Pm.Spec.nf (spSb.one 128 sxIndexFunc) t := rfl
theorem spSc_ok : SpecOk Try.prog spSc := Spec.one_ok sxIndexFunc_ok spSb_ok
theorem sContains_c {l : List Span} {s : TV} (hl : IsRow Span.cs s l) (hll : l.length ≤ 9000000000000) (most : Int) (hm : 0 ≤ most ∧ most ≤ 1000000) : PCalls Try.prog 117 [s, .fn 118 [] [.cptr [.int .i64 most]]] (.bool (!(l.all (spannedB · (-most) most)))) := by
  have rI := rowS_is hl
  unfold rowL at rI
  simp only [unS_nil] at rI
  have hb := idxBad_iff most l
  refine pcalls_by Try.mixes spSc_ok (fn := Try.f117) Try.func117 rfl (by kernel_rfl) (by show 2 ≤ _; decide) ?_
  simp (decide := true) (maxSteps := 4000000) only [go_sem, Nat.reduceAdd, Nat.reduceSub, Nat.reduceMul, Nat.reduceDiv, Nat.reduceMod, Nat.reduceLT, Nat.reduceLeDiff, Nat.reduceEqDiff, Nat.reduceBEq, Nat.reduceBNe, Nat.reduceGT, Int.reduceAdd, Int.reduceSub, Int.reduceMul, Int.reduceNeg, Int.reduceLT, Int.reduceLE, Int.reduceEq, Int.reduceNe, Int.reduceBEq, Int.reduceBNe, Int.reduceToNat, Int.reduceGT, Int.reduceGE, ↓reduceIte, decide_true, decide_false, eq_self, Nat.mul_one, Nat.zero_mul, Nat.one_mul, Int.le_refl, Nat.le_refl, Int.cast_ofNat_Int, Try.f117, rI, hll, hb, hm]
noncomputable def sxContains : List TV → Option TV
  | [s, .fn F [] [.cptr [.int .i64 most]]] => match rowL unS s with
    | some l => if l.length ≤ 9000000000000 ∧ F = 118 ∧ 0 ≤ most ∧ most ≤ 1000000 then some (.bool (!(l.all (spannedB · (-most) most)))) else none
    | none => none
  | _ => none
theorem sxContains_ok : ∀ xs r, sxContains xs = some r → PCalls Try.prog 117 xs r := by
  intro xs r h
  unfold sxContains at h
  split at h
  · split at h
    · rename_i l hl
      have hl := rowL_some (un := unS) unS_nil (@unS_some) hl
      split at h
      · rename_i hc; cases h
        obtain ⟨h1, rfl, h2⟩ := hc
        exact sContains_c hl h1 _ h2
      · cases h
    · cases h
  · cases h
attribute [go_sem] sxContains
noncomputable def spSd : Pm.Spec := { spSb.one 117 sxContains with fz := fun _ => true }
@[go_sem] theorem spSd_p (f : FuncId) (xs : List TV) : spSd.p f xs = Pm.Spec.p ({ spSb.one 117 sxContains with fz := fun _ => true }) f xs := rfl
@[go_sem] theorem spSd_h (f : FuncId) (ps : List PV) (hl : List PO) : spSd.h f ps hl = Pm.Spec.h ({ spSb.one 117 sxContains with fz := fun _ => true }) f ps hl := rfl
@[go_sem] theorem spSd_y (Y : Pm.YS) (f : FuncId) (ps : List PV) (hl : List PO) : spSd.y Y f ps hl = Pm.Spec.y ({ spSb.one 117 sxContains with fz := fun _ => true }) Y f ps hl := rfl
@[go_sem] theorem spSd_fz (f : FuncId) : spSd.fz f = Pm.Spec.fz ({ spSb.one 117 sxContains with fz := fun _ => true }) f := rfl
@[go_sem] theorem spSd_fr (f : FuncId) : spSd.fr f = Pm.Spec.fr ({ spSb.one 117 sxContains with fz := fun _ => true }) f := rfl
@[go_sem] theorem spSd_yf (f : FuncId) : spSd.yf f = Pm.Spec.yf ({ spSb.one 117 sxContains with fz := fun _ => true }) f := rfl
@[go_sem] theorem spSd_mu (t : TypeId) : spSd.mu t = Pm.Spec.mu ({ spSb.one 117 sxContains with fz := fun _ => true }) t := rfl
@[go_sem] theorem spSd_nf (t : TypeId) : spSd.nf t = Pm.Spec.nf ({ spSb.one 117 sxContains with fz := fun _ => true }) t := rfl
theorem spSd_ok : SpecOk Try.prog spSd := ⟨(Spec.one_ok sxContains_ok spSb_ok).1, (Spec.one_ok sxContains_ok spSb_ok).2⟩
theorem sAllSpanned_c {l : List Span} {s : TV} (hl : IsRow Span.cs s l) (hll : l.length ≤ 9000000000000) (most : Int) (hm : 0 ≤ most ∧ most ≤ 1000000) : PCalls Try.prog 84 [s, .int .i64 most] (.bool (l.all (spannedB · (-most) most))) := by
  have rI := rowS_is hl
  unfold rowL at rI
  simp only [unS_nil] at rI
  refine pcalls_by Try.mixes spSd_ok (fn := Try.f84) Try.func84 rfl (by kernel_rfl) (by show 2 ≤ _; decide) ?_
  simp (decide := true) (maxSteps := 4000000) only [go_sem, Nat.reduceAdd, Nat.reduceSub, Nat.reduceMul, Nat.reduceDiv, Nat.reduceMod, Nat.reduceLT, Nat.reduceLeDiff, Nat.reduceEqDiff, Nat.reduceBEq, Nat.reduceBNe, Nat.reduceGT, Int.reduceAdd, Int.reduceSub, Int.reduceMul, Int.reduceNeg, Int.reduceLT, Int.reduceLE, Int.reduceEq, Int.reduceNe, Int.reduceBEq, Int.reduceBNe, Int.reduceToNat, Int.reduceGT, Int.reduceGE, ↓reduceIte, decide_true, decide_false, eq_self, Nat.mul_one, Nat.zero_mul, Nat.one_mul, Int.le_refl, Nat.le_refl, Int.cast_ofNat_Int, Try.f84, rI, hll, hm]
noncomputable def sxAllSpanned : List TV → Option TV
  | [s, .int .i64 most] => match rowL unS s with
    | some l => if l.length ≤ 9000000000000 ∧ 0 ≤ most ∧ most ≤ 1000000 then some (.bool (l.all (spannedB · (-most) most))) else none
    | none => none
  | _ => none
theorem sxAllSpanned_ok : ∀ xs r, sxAllSpanned xs = some r → PCalls Try.prog 84 xs r := by
  intro xs r h
  unfold sxAllSpanned at h
  split at h
  · split at h
    · rename_i l hl
      have hl := rowL_some (un := unS) (by first | rfl | exact unS_nil) (@unS_some) hl
      split at h
      · rename_i hc; cases h; exact sAllSpanned_c hl hc.1 _ hc.2
      · cases h
    · cases h
  · cases h
attribute [go_sem] sxAllSpanned
noncomputable def spSe : Pm.Spec := spSa.one 84 sxAllSpanned
@[go_sem] theorem spSe_p (f : FuncId) (xs : List TV) : spSe.p f xs = Pm.Spec.p (spSa.one 84 sxAllSpanned) f xs := rfl
@[go_sem] theorem spSe_h (f : FuncId) (ps : List PV) (hl : List PO) : spSe.h f ps hl = Pm.Spec.h (spSa.one 84 sxAllSpanned) f ps hl := rfl
@[go_sem] theorem spSe_y (Y : Pm.YS) (f : FuncId) (ps : List PV) (hl : List PO) : spSe.y Y f ps hl = Pm.Spec.y (spSa.one 84 sxAllSpanned) Y f ps hl := rfl
@[go_sem] theorem spSe_fz (f : FuncId) : spSe.fz f = Pm.Spec.fz (spSa.one 84 sxAllSpanned) f := rfl
@[go_sem] theorem spSe_fr (f : FuncId) : spSe.fr f = Pm.Spec.fr (spSa.one 84 sxAllSpanned) f := rfl
@[go_sem] theorem spSe_yf (f : FuncId) : spSe.yf f = Pm.Spec.yf (spSa.one 84 sxAllSpanned) f := rfl
@[go_sem] theorem spSe_mu (t : TypeId) : spSe.mu t = Pm.Spec.mu (spSa.one 84 sxAllSpanned) t := rfl
@[go_sem] theorem spSe_nf (t : TypeId) : spSe.nf t = Pm.Spec.nf (spSa.one 84 sxAllSpanned) t := rfl
theorem spSe_ok : SpecOk Try.prog spSe := Spec.one_ok sxAllSpanned_ok spSa_ok

theorem chk8 : ∀ b1 b2 b3 b4 b5 b6 b7 b8 : Bool, (!(b1 && b2 && b3 && b4 && b5) || b1 && b2 && b3 && b4 && b5 && !b6 || !(!(b1 && b2 && b3 && b4 && b5) || b1 && b2 && b3 && b4 && b5 && !b6) && !b7 || !(!(b1 && b2 && b3 && b4 && b5) || b1 && b2 && b3 && b4 && b5 && !b6 || !(!(b1 && b2 && b3 && b4 && b5) || b1 && b2 && b3 && b4 && b5 && !b6) && !b7) && !b8) = !(b1 && (b2 && (b3 && (b4 && (b5 && (b6 && (b7 && b8))))))) := by decide
theorem sCheck_c (x : Sx) {sT sS : TV} (hT : IsRow Span.cs sT x.tab) (hS : IsRow Span.cs sS x.shade) (lT : x.tab.length ≤ 9000000000000) (lS : x.shade.length ≤ 9000000000000) : PCalls Try.prog 43 [x.t sT sS] (.int .i64 (if sxOk x then 0 else 50)) := by
  have rT := rowS_is hT
  have rS := rowS_is hS
  unfold rowL at rT rS
  simp only [unS_nil] at rT rS
  have m1 : (0 : Int) ≤ 600 ∧ (600 : Int) ≤ 1000000 := by decide
  have m2 : (0 : Int) ≤ 120 ∧ (120 : Int) ≤ 1000000 := by decide
  have neg600 : (-(600 : Int)) = -600 := rfl
  have neg120 : (-(120 : Int)) = -120 := rfl
  have hok : sxOk x = (inB x.step 1 72000 && (inB x.tab.length 2 12 && (x.tab.all (spannedB · (-600) 600) && (decide (IntKind.i64.wrap (x.step * IntKind.i64.wrap (x.tab.length - 1)) ≤ 504000) && (spannedB x.idx (-1800) 1800 && (inB x.wrong 0 60 && (decide ((x.shade.length : Int) ≤ 6) && x.shade.all (spannedB · (-120) 120)))))))) := by
    unfold sxOk
    cases h1 : inB x.step 1 72000 with
    | false => rfl
    | true => cases h2 : inB (x.tab.length : Int) 2 12 with
      | false => rfl
      | true =>
        have h1 := inB_iff.1 h1
        have h2 := inB_iff.1 h2
        have hb := mulR (a := x.step) (b := (x.tab.length : Int) - 1) (m := 72000) (n := 11) (by omega) (by omega) (by omega)
        rw [wrap_in (n := (x.tab.length : Int) - 1) (by omega) (by omega), wrap_in (by omega) (by omega)]
  have n6 : decide ((x.shade.length : Int) > 6) = !decide ((x.shade.length : Int) ≤ 6) := by
    by_cases h : (x.shade.length : Int) ≤ 6
    · rw [decide_eq_true h, decide_eq_false (by omega)]; rfl
    · rw [decide_eq_false h, decide_eq_true (by omega)]; rfl
  obtain ⟨step, tab, ⟨i0, i1⟩, wrong, shade⟩ := x
  simp only at *
  refine pcalls_by Try.mixes spSe_ok (fn := Try.f43) Try.func43 rfl (by kernel_rfl) (by show 1 ≤ _; decide) ?_
  rcases hT with ⟨rfl, rfl⟩ | ⟨f, rfl⟩
  · have h2 : inB 0 2 12 = false := rfl
    have h2' : inB ((([] : List Span).length : Nat) : Int) 2 12 = false := rfl
    rw [h2'] at hok
    simp only [Bool.false_and, Bool.and_false] at hok
    rcases hS with ⟨rfl, rfl⟩ | ⟨f', rfl⟩ <;> simp (decide := true) (maxSteps := 4000000) only [go_sem, Nat.reduceAdd, Nat.reduceSub, Nat.reduceMul, Nat.reduceDiv, Nat.reduceMod, Nat.reduceLT, Nat.reduceLeDiff, Nat.reduceEqDiff, Nat.reduceBEq, Nat.reduceBNe, Nat.reduceGT, Int.reduceAdd, Int.reduceSub, Int.reduceMul, Int.reduceNeg, Int.reduceLT, Int.reduceLE, Int.reduceEq, Int.reduceNe, Int.reduceBEq, Int.reduceBNe, Int.reduceToNat, Int.reduceGT, Int.reduceGE, ↓reduceIte, decide_true, decide_false, eq_self, Nat.mul_one, Nat.zero_mul, Nat.one_mul, Int.le_refl, Nat.le_refl, Int.cast_ofNat_Int, Try.f43, Sx.t, Sx.cs, unS_eq, lT, lS, m1, m2, neg600, neg120, h2, hok]
  · obtain ⟨W, hW⟩ : ∃ W, IntKind.i64.wrap (step * IntKind.i64.wrap (tab.length - 1)) = W := ⟨_, rfl⟩
    rw [hW] at hok
    generalize h1 : inB step 1 72000 = b1 at *
    generalize h2 : inB (tab.length : Int) 2 12 = b2 at *
    generalize h3 : (tab.all (spannedB · (-600) 600)) = b3 at *
    generalize h4 : decide (W ≤ 504000) = b4 at *
    generalize h5 : spannedB ⟨i0, i1⟩ (-1800) 1800 = b5 at *
    generalize h6 : inB wrong 0 60 = b6 at *
    generalize h7 : decide ((shade.length : Int) ≤ 6) = b7 at *
    generalize h8 : (shade.all (spannedB · (-120) 120)) = b8 at *
    rw [hok]
    have hc := chk8 b1 b2 b3 b4 b5 b6 b7 b8
    obtain ⟨O, hO⟩ : ∃ O, (b1 && (b2 && (b3 && (b4 && (b5 && (b6 && (b7 && b8))))))) = O := ⟨_, rfl⟩
    rw [hO] at hc ⊢
    rcases hS with ⟨rfl, rfl⟩ | ⟨f', rfl⟩
    · have h7' : b7 = true := h7.symm
      have h8' : b8 = true := h8.symm
      subst h7'; subst h8'
      simp only [Bool.not_true, Bool.and_false, Bool.or_false] at hc
      cases O <;> simp (decide := true) (maxSteps := 4000000) only [go_sem, Nat.reduceAdd, Nat.reduceSub, Nat.reduceMul, Nat.reduceDiv, Nat.reduceMod, Nat.reduceLT, Nat.reduceLeDiff, Nat.reduceEqDiff, Nat.reduceBEq, Nat.reduceBNe, Nat.reduceGT, Int.reduceAdd, Int.reduceSub, Int.reduceMul, Int.reduceNeg, Int.reduceLT, Int.reduceLE, Int.reduceEq, Int.reduceNe, Int.reduceBEq, Int.reduceBNe, Int.reduceToNat, Int.reduceGT, Int.reduceGE, ↓reduceIte, decide_true, decide_false, eq_self, Nat.mul_one, Nat.zero_mul, Nat.one_mul, Int.le_refl, Nat.le_refl, Int.cast_ofNat_Int, Try.f43, Sx.t, Sx.cs, unS_eq, lT, lS, m1, m2, neg600, neg120, h1, h2, h3, hW, h4, h5, h6, h8, hc]
    · cases O <;> simp (decide := true) (maxSteps := 4000000) only [go_sem, Nat.reduceAdd, Nat.reduceSub, Nat.reduceMul, Nat.reduceDiv, Nat.reduceMod, Nat.reduceLT, Nat.reduceLeDiff, Nat.reduceEqDiff, Nat.reduceBEq, Nat.reduceBNe, Nat.reduceGT, Int.reduceAdd, Int.reduceSub, Int.reduceMul, Int.reduceNeg, Int.reduceLT, Int.reduceLE, Int.reduceEq, Int.reduceNe, Int.reduceBEq, Int.reduceBNe, Int.reduceToNat, Int.reduceGT, Int.reduceGE, ↓reduceIte, decide_true, decide_false, eq_self, Nat.mul_one, Nat.zero_mul, Nat.one_mul, Int.le_refl, Nat.le_refl, Int.cast_ofNat_Int, Try.f43, Sx.t, Sx.cs, unS_eq, lT, lS, m1, m2, neg600, neg120, h1, h2, h3, hW, h4, h5, h6, h7, n6, h8, hc]
end Go.Proofs.Ytadkjjnnnkfalaa.Sx

/- Part Sc. -/
namespace Go.Proofs.Ytadkjjnnnkfalaa.Sx
end Go.Proofs.Ytadkjjnnnkfalaa.Sx
namespace Go.Proofs.Ytadkjjnnnkfalaa.Sx
open Go.RowKit Go.Pm Go.Oc Go.Oh Go.Os
set_option maxRecDepth 100000
set_option linter.unusedVariables false
set_option maxHeartbeats 4000000

noncomputable def sxCheck : List TV → Option TV
  | [.agg [.int .i64 a0, sT, .int .i64 a1, .int .i64 a2, .int .i64 a3, sS]] => match rowL unS sT, rowL unS sS with
    | some tab, some shade => if tab.length ≤ 9000000000000 ∧ shade.length ≤ 9000000000000 then some (.int .i64 (if sxOk (⟨a0, tab, ⟨a1, a2⟩, a3, shade⟩ : Sx) then 0 else 50)) else none
    | _, _ => none
  | _ => none
theorem sxCheck_ok : ∀ xs r, sxCheck xs = some r → PCalls Try.prog 43 xs r := by
  intro xs r h
  unfold sxCheck at h
  split at h
  · split at h
    · rename_i tab shade hT hS
      have hT := rowL_some (un := unS) unS_nil (@unS_some) hT
      have hS := rowL_some (un := unS) unS_nil (@unS_some) hS
      split at h
      · rename_i hc; cases h; exact sCheck_c ⟨_, tab, ⟨_, _⟩, _, shade⟩ hT hS hc.1 hc.2
      · cases h
    · cases h
  · cases h
attribute [go_sem] sxCheck
theorem good_T {x : Sx} {sT : TV} (h : GoodS x) (hT : IsRow Span.cs sT x.tab) : ∃ f, sT = .sl (x.tab.flatMap Span.cs) x.tab.length f := hT.ne (by have := h.len; omega)
theorem sLast_c (x : Sx) {sT sS : TV} (hT : IsRow Span.cs sT x.tab) (hv : sxOk x = true) : PCalls Try.prog 112 [x.t sT sS] (.int .i64 (last x)) := by
  have h := sxOk_iff.1 hv
  obtain ⟨f, rfl⟩ := good_T h hT
  have hb := last_b h
  have hl := h.len
  have w1 : IntKind.i64.wrap ((x.tab.length : Int) - 1) = (x.tab.length : Int) - 1 := wrap_in (by omega) (by omega)
  have w2 : IntKind.i64.wrap (x.step * ((x.tab.length : Int) - 1)) = last x := wrap_in (show _ ≤ last x by omega) (show last x ≤ _ by omega)
  refine pcalls_by Try.mixes noSpec_ok (fn := Try.f112) Try.func112 rfl (by kernel_rfl) (by show 1 ≤ _; decide) ?_
  simp (decide := true) (maxSteps := 4000000) only [go_sem, Nat.reduceAdd, Nat.reduceSub, Nat.reduceMul, Nat.reduceDiv, Nat.reduceMod, Nat.reduceLT, Nat.reduceLeDiff, Nat.reduceEqDiff, Nat.reduceBEq, Nat.reduceBNe, Nat.reduceGT, Int.reduceAdd, Int.reduceSub, Int.reduceMul, Int.reduceNeg, Int.reduceLT, Int.reduceLE, Int.reduceEq, Int.reduceNe, Int.reduceBEq, Int.reduceBNe, Int.reduceToNat, Int.reduceGT, Int.reduceGE, ↓reduceIte, decide_true, decide_false, eq_self, Nat.mul_one, Nat.zero_mul, Nat.one_mul, Int.le_refl, Nat.le_refl, Int.cast_ofNat_Int, Try.f112, Sx.t, Sx.cs, w1, w2]
noncomputable def sxLast : List TV → Option TV
  | [.agg [.int .i64 a0, sT, .int .i64 a1, .int .i64 a2, .int .i64 a3, sS]] => match rowL unS sT, rowL unS sS with
    | some tab, some shade => if sxOk (⟨a0, tab, ⟨a1, a2⟩, a3, shade⟩ : Sx) = true then some (.int .i64 (last (⟨a0, tab, ⟨a1, a2⟩, a3, shade⟩ : Sx))) else none
    | _, _ => none
  | _ => none
theorem sxLast_ok : ∀ xs r, sxLast xs = some r → PCalls Try.prog 112 xs r := by
  intro xs r h
  unfold sxLast at h
  split at h
  · split at h
    · rename_i tab shade hT hS
      have hT := rowL_some (un := unS) unS_nil (@unS_some) hT
      have hS := rowL_some (un := unS) unS_nil (@unS_some) hS
      split at h
      · rename_i hc; cases h; exact sLast_c ⟨_, tab, ⟨_, _⟩, _, shade⟩ hT hc
      · cases h
    · cases h
  · cases h
attribute [go_sem] sxLast
noncomputable def spSf : Pm.Spec := spSa.one 112 sxLast
@[go_sem] theorem spSf_p (f : FuncId) (xs : List TV) : spSf.p f xs = Pm.Spec.p (spSa.one 112 sxLast) f xs := rfl
@[go_sem] theorem spSf_h (f : FuncId) (ps : List PV) (hl : List PO) : spSf.h f ps hl = Pm.Spec.h (spSa.one 112 sxLast) f ps hl := rfl
@[go_sem] theorem spSf_y (Y : Pm.YS) (f : FuncId) (ps : List PV) (hl : List PO) : spSf.y Y f ps hl = Pm.Spec.y (spSa.one 112 sxLast) Y f ps hl := rfl
@[go_sem] theorem spSf_fz (f : FuncId) : spSf.fz f = Pm.Spec.fz (spSa.one 112 sxLast) f := rfl
@[go_sem] theorem spSf_fr (f : FuncId) : spSf.fr f = Pm.Spec.fr (spSa.one 112 sxLast) f := rfl
@[go_sem] theorem spSf_yf (f : FuncId) : spSf.yf f = Pm.Spec.yf (spSa.one 112 sxLast) f := rfl
@[go_sem] theorem spSf_mu (t : TypeId) : spSf.mu t = Pm.Spec.mu (spSa.one 112 sxLast) t := rfl
@[go_sem] theorem spSf_nf (t : TypeId) : spSf.nf t = Pm.Spec.nf (spSa.one 112 sxLast) t := rfl
theorem spSf_ok : SpecOk Try.prog spSf := Spec.one_ok sxLast_ok spSa_ok
theorem sIsReading_c (x : Sx) {sT sS : TV} (hT : IsRow Span.cs sT x.tab) (hS : IsRow Span.cs sS x.shade) (hv : sxOk x = true) (a s : Int) : PCalls Try.prog 73 [x.t sT sS, .agg [.int .i64 a, .int .i64 s]] (.bool (isRd x a s)) := by
  have h := sxOk_iff.1 hv
  have hp := pow_len h.sh
  have rT := rowS_is hT
  have rS := rowS_is hS
  unfold rowL at rT rS
  simp only [unS_nil] at rT rS
  have hr : isRd x a s = (inB a 0 (last x) && inB s 0 (2 ^ x.shade.length - 1)) := rfl
  have h6 := h.sh
  obtain ⟨step, tab, ⟨i0, i1⟩, wrong, shade⟩ := x
  simp only at *
  obtain ⟨P2, hP2⟩ : ∃ P2 : Int, (2 : Int) ^ shade.length = P2 := ⟨_, rfl⟩
  have hsh : IntKind.i64.wrap (1 * 2 ^ min shade.length 64) = P2 := by rw [Nat.min_eq_left (by omega), Int.one_mul, hP2, wrap_in (by omega) (by omega)]
  have w1 : IntKind.i64.wrap (P2 - 1) = P2 - 1 := wrap_in (by omega) (by omega)
  rw [hP2] at hr
  have hl0 : ¬ (shade.length : Int) < 0 := by omega
  refine pcalls_by Try.mixes spSf_ok (fn := Try.f73) Try.func73 rfl (by kernel_rfl) (by show 2 ≤ _; decide) ?_
  rw [hr]
  rcases hS with ⟨rfl, rfl⟩ | ⟨f', rfl⟩
  · have e1 : P2 = 1 := hP2.symm
    subst e1
    have w0 : IntKind.i64.wrap (1 * 2 ^ min 0 64) = 1 := rfl
    have w0' : IntKind.i64.wrap 0 = 0 := rfl
    simp (decide := true) (maxSteps := 4000000) only [go_sem, Nat.reduceAdd, Nat.reduceSub, Nat.reduceMul, Nat.reduceDiv, Nat.reduceMod, Nat.reduceLT, Nat.reduceLeDiff, Nat.reduceEqDiff, Nat.reduceBEq, Nat.reduceBNe, Nat.reduceGT, Int.reduceAdd, Int.reduceSub, Int.reduceMul, Int.reduceNeg, Int.reduceLT, Int.reduceLE, Int.reduceEq, Int.reduceNe, Int.reduceBEq, Int.reduceBNe, Int.reduceToNat, Int.reduceGT, Int.reduceGE, ↓reduceIte, decide_true, decide_false, eq_self, Nat.mul_one, Nat.zero_mul, Nat.one_mul, Int.le_refl, Nat.le_refl, Int.cast_ofNat_Int, Try.f73, Sx.t, Sx.cs, rT, hv, hsh, w1, w0, w0', hl0, IntKind.bits]
  · simp (decide := true) (maxSteps := 4000000) only [go_sem, Nat.reduceAdd, Nat.reduceSub, Nat.reduceMul, Nat.reduceDiv, Nat.reduceMod, Nat.reduceLT, Nat.reduceLeDiff, Nat.reduceEqDiff, Nat.reduceBEq, Nat.reduceBNe, Nat.reduceGT, Int.reduceAdd, Int.reduceSub, Int.reduceMul, Int.reduceNeg, Int.reduceLT, Int.reduceLE, Int.reduceEq, Int.reduceNe, Int.reduceBEq, Int.reduceBNe, Int.reduceToNat, Int.reduceGT, Int.reduceGE, ↓reduceIte, decide_true, decide_false, eq_self, Nat.mul_one, Nat.zero_mul, Nat.one_mul, Int.le_refl, Nat.le_refl, Int.cast_ofNat_Int, Try.f73, Sx.t, Sx.cs, rT, unS_eq, hv, hsh, w1, hl0, IntKind.bits]
noncomputable def sxIsReading : List TV → Option TV
  | [.agg [.int .i64 a0, sT, .int .i64 a1, .int .i64 a2, .int .i64 a3, sS], .agg [.int .i64 p, .int .i64 q]] => match rowL unS sT, rowL unS sS with
    | some tab, some shade => if sxOk (⟨a0, tab, ⟨a1, a2⟩, a3, shade⟩ : Sx) = true then some (.bool (isRd (⟨a0, tab, ⟨a1, a2⟩, a3, shade⟩ : Sx) p q)) else none
    | _, _ => none
  | _ => none
theorem sxIsReading_ok : ∀ xs r, sxIsReading xs = some r → PCalls Try.prog 73 xs r := by
  intro xs r h
  unfold sxIsReading at h
  split at h
  · split at h
    · rename_i tab shade hT hS
      have hT := rowL_some (un := unS) unS_nil (@unS_some) hT
      have hS := rowL_some (un := unS) unS_nil (@unS_some) hS
      split at h
      · rename_i hc; cases h; exact sIsReading_c ⟨_, tab, ⟨_, _⟩, _, shade⟩ hT hS hc _ _
      · cases h
    · cases h
  · cases h
attribute [go_sem] sxIsReading

theorem sFixed_c (s : Span) (a : Int) : PCalls Try.prog 153 [s.t, .int .i64 a] s.t := by
  refine pcalls_by Try.mixes noSpec_ok (fn := Try.f153) Try.func153 rfl (by kernel_rfl) (by show 2 ≤ _; decide) ?_
  simp (decide := true) (maxSteps := 4000000) only [go_sem, Nat.reduceAdd, Nat.reduceSub, Nat.reduceMul, Nat.reduceDiv, Nat.reduceMod, Nat.reduceLT, Nat.reduceLeDiff, Nat.reduceEqDiff, Nat.reduceBEq, Nat.reduceBNe, Nat.reduceGT, Int.reduceAdd, Int.reduceSub, Int.reduceMul, Int.reduceNeg, Int.reduceLT, Int.reduceLE, Int.reduceEq, Int.reduceNe, Int.reduceBEq, Int.reduceBNe, Int.reduceToNat, Int.reduceGT, Int.reduceGE, ↓reduceIte, decide_true, decide_false, eq_self, Nat.mul_one, Nat.zero_mul, Nat.one_mul, Int.le_refl, Nat.le_refl, Int.cast_ofNat_Int, Try.f153, Span.t, Span.cs]
noncomputable def sxFixed : List TV → Option TV
  | [.agg [.int .i64 a, .int .i64 b], .int .i64 n] => some (.agg [.int .i64 a, .int .i64 b])
  | _ => none
theorem sxFixed_ok : ∀ xs r, sxFixed xs = some r → PCalls Try.prog 153 xs r := by
  intro xs r h
  unfold sxFixed at h
  split at h
  · cases h; exact sFixed_c ⟨_, _⟩ _
  · cases h
attribute [go_sem] sxFixed
theorem sedivT {a b : Int} (h : 0 < b) : (if a.tmod b < 0 then a.tdiv b - 1 else a.tdiv b) = a / b := by
  have h1 := Int.mul_tdiv_add_tmod a b
  have h2 := Int.mul_ediv_add_emod a b
  have h3 := Int.emod_nonneg a (show b ≠ 0 by omega)
  have h4 := Int.emod_lt_of_pos a h
  have h5 : -b < a.tmod b ∧ a.tmod b < b := by
    have := Int.tmod_lt_of_pos a h
    have h6 := Int.tmod_lt_of_pos (-a) h
    rw [Int.neg_tmod] at h6
    omega
  by_cases hn : a.tmod b < 0
  · rw [if_pos hn]
    have e : b * (a.tdiv b - 1) + (a.tmod b + b) = a := by rw [Int.mul_sub]; omega
    have := (Int.ediv_emod_unique h (a := a) (r := a.tmod b + b) (q := a.tdiv b - 1)).2 ⟨by omega, by omega, by omega⟩
    exact this.1.symm
  · rw [if_neg hn]
    have := (Int.ediv_emod_unique h (a := a) (r := a.tmod b) (q := a.tdiv b)).2 ⟨by omega, by omega, by omega⟩
    exact this.1.symm
theorem sDown_c (a b : Int) (hb : 0 < b) (ha : -4000000000000000000 ≤ a ∧ a ≤ 4000000000000000000) : PCalls Try.prog 155 [.int .i64 a, .int .i64 b] (.int .i64 (a / b)) := by
  refine pcalls_by Try.mixes noSpec_ok (fn := Try.f155) Try.func155 rfl (by kernel_rfl) (by show 2 ≤ _; decide) ?_
  have hne : ¬ b = 0 := by omega
  have hq := sedivT (a := a) hb
  have hd := hdiv_mid (a := a) (b := b) ha hb
  have hd := hd.resolve_right id
  unfold hMid at hd
  by_cases hn : a.tmod b < 0
  · rw [if_pos hn] at hq
    have w1 : IntKind.i64.wrap (a.tdiv b) = a.tdiv b := wrap_in (by omega) (by omega)
    have w2 : IntKind.i64.wrap (a.tdiv b - 1) = a / b := by rw [wrap_in (by omega) (by omega)]; exact hq
    simp (decide := true) (maxSteps := 4000000) only [go_sem, Nat.reduceAdd, Nat.reduceSub, Nat.reduceMul, Nat.reduceDiv, Nat.reduceMod, Nat.reduceLT, Nat.reduceLeDiff, Nat.reduceEqDiff, Nat.reduceBEq, Nat.reduceBNe, Nat.reduceGT, Int.reduceAdd, Int.reduceSub, Int.reduceMul, Int.reduceNeg, Int.reduceLT, Int.reduceLE, Int.reduceEq, Int.reduceNe, Int.reduceBEq, Int.reduceBNe, Int.reduceToNat, Int.reduceGT, Int.reduceGE, ↓reduceIte, decide_true, decide_false, eq_self, Nat.mul_one, Nat.zero_mul, Nat.one_mul, Int.le_refl, Nat.le_refl, Int.cast_ofNat_Int, Try.f155, hne, hn, w1, w2]
  · rw [if_neg hn] at hq
    have w1 : IntKind.i64.wrap (a.tdiv b) = a / b := by rw [wrap_in (by omega) (by omega)]; exact hq
    simp (decide := true) (maxSteps := 4000000) only [go_sem, Nat.reduceAdd, Nat.reduceSub, Nat.reduceMul, Nat.reduceDiv, Nat.reduceMod, Nat.reduceLT, Nat.reduceLeDiff, Nat.reduceEqDiff, Nat.reduceBEq, Nat.reduceBNe, Nat.reduceGT, Int.reduceAdd, Int.reduceSub, Int.reduceMul, Int.reduceNeg, Int.reduceLT, Int.reduceLE, Int.reduceEq, Int.reduceNe, Int.reduceBEq, Int.reduceBNe, Int.reduceToNat, Int.reduceGT, Int.reduceGE, ↓reduceIte, decide_true, decide_false, eq_self, Nat.mul_one, Nat.zero_mul, Nat.one_mul, Int.le_refl, Nat.le_refl, Int.cast_ofNat_Int, Try.f155, hne, hn, w1]
noncomputable def sxDown : List TV → Option TV
  | [.int .i64 a, .int .i64 b] => if 0 < b ∧ -4000000000000000000 ≤ a ∧ a ≤ 4000000000000000000 then some (.int .i64 (a / b)) else none
  | _ => none
theorem sxDown_ok : ∀ xs r, sxDown xs = some r → PCalls Try.prog 155 xs r := by
  intro xs r h
  unfold sxDown at h
  split at h
  · split at h
    · rename_i hc; cases h; exact sDown_c _ _ hc.1 hc.2
    · cases h
  · cases h
attribute [go_sem] sxDown
noncomputable def spSg : Pm.Spec := noSpec.one 155 sxDown
@[go_sem] theorem spSg_p (f : FuncId) (xs : List TV) : spSg.p f xs = Pm.Spec.p (noSpec.one 155 sxDown) f xs := rfl
@[go_sem] theorem spSg_h (f : FuncId) (ps : List PV) (hl : List PO) : spSg.h f ps hl = Pm.Spec.h (noSpec.one 155 sxDown) f ps hl := rfl
@[go_sem] theorem spSg_y (Y : Pm.YS) (f : FuncId) (ps : List PV) (hl : List PO) : spSg.y Y f ps hl = Pm.Spec.y (noSpec.one 155 sxDown) Y f ps hl := rfl
@[go_sem] theorem spSg_fz (f : FuncId) : spSg.fz f = Pm.Spec.fz (noSpec.one 155 sxDown) f := rfl
@[go_sem] theorem spSg_fr (f : FuncId) : spSg.fr f = Pm.Spec.fr (noSpec.one 155 sxDown) f := rfl
@[go_sem] theorem spSg_yf (f : FuncId) : spSg.yf f = Pm.Spec.yf (noSpec.one 155 sxDown) f := rfl
@[go_sem] theorem spSg_mu (t : TypeId) : spSg.mu t = Pm.Spec.mu (noSpec.one 155 sxDown) t := rfl
@[go_sem] theorem spSg_nf (t : TypeId) : spSg.nf t = Pm.Spec.nf (noSpec.one 155 sxDown) t := rfl
theorem spSg_ok : SpecOk Try.prog spSg := Spec.one_ok sxDown_ok noSpec_ok
theorem sTable_c {st : Int} {l : List Span} (f : Bool) {a : Int} (h1 : 1 ≤ st ∧ st ≤ 72000) (hl : l.all (spannedB · (-600) 600) = true) (h0 : 1 ≤ l.length) (hll : l.length ≤ 9000000000000) (ha : 0 ≤ a) (ha2 : a ≤ 504000) (ha3 : a ≤ st * (l.length - 1)) :
    PCalls Try.prog 154 [.agg [.int .i64 st, .sl (l.flatMap Span.cs) l.length f], .int .i64 a] (corr st l a).t := by
  have hit := inTab h1.1 h0 ha ha3
  have hg : ∀ s ∈ l, -600 ≤ s.lo ∧ s.lo ≤ s.hi ∧ s.hi ≤ 600 := fun s hs => spannedB_iff.1 (List.all_eq_true.1 hl s hs)
  have hne : ¬ st = 0 := by omega
  have q1 : a.tdiv st = a / st := Int.tdiv_eq_ediv_of_nonneg ha
  have q2 : a.tmod st = a % st := Int.tmod_eq_emod_of_nonneg ha
  have hq := hit.k0
  have hqn := hit.kn
  have hd0 := hit.d0
  have hds := hit.ds
  have hqb : a / st ≤ 504000 := Int.le_trans (Int.ediv_le_self st ha) ha2
  obtain ⟨k, hk⟩ : ∃ k : Nat, a / st = k := ⟨(a / st).toNat, (Int.toNat_of_nonneg hq).symm⟩
  obtain ⟨d, hd⟩ : ∃ d : Int, a % st = d := ⟨_, rfl⟩
  have w1 : IntKind.i64.wrap (k : Int) = k := wrap_in (by omega) (by omega)
  have w2 : IntKind.i64.wrap d = d := wrap_in (by omega) (by omega)
  rw [hk, Int.toNat_natCast] at hqn
  have hkl : (k : Int) < l.length := by omega
  obtain ⟨x, hx⟩ := get_lt hkl
  have dx := flat_at Span.cs (n := 2) (fun _ => rfl) hx
  have ex := atS_eq hx
  have gx := hg x (List.mem_of_getElem? hx)
  refine pcalls_by Try.mixes spSg_ok (fn := Try.f154) Try.func154 rfl (by kernel_rfl) (by show 2 ≤ _; decide) ?_
  by_cases hd00 : d = 0
  · subst hd00
    have e : corr st l a = x := by unfold corr; simp only [hd, hk, Int.toNat_natCast, if_true, ex]
    have b0 : ((0 : Int) == 0) = true := rfl
    simp (decide := true) (maxSteps := 4000000) only [go_sem, Nat.reduceAdd, Nat.reduceSub, Nat.reduceMul, Nat.reduceDiv, Nat.reduceMod, Nat.reduceLT, Nat.reduceLeDiff, Nat.reduceEqDiff, Nat.reduceBEq, Nat.reduceBNe, Nat.reduceGT, Int.reduceAdd, Int.reduceSub, Int.reduceMul, Int.reduceNeg, Int.reduceLT, Int.reduceLE, Int.reduceEq, Int.reduceNe, Int.reduceBEq, Int.reduceBNe, Int.reduceToNat, Int.reduceGT, Int.reduceGE, ↓reduceIte, decide_true, decide_false, eq_self, Nat.mul_one, Nat.zero_mul, Nat.one_mul, Int.le_refl, Nat.le_refl, Int.cast_ofNat_Int, Try.f154, hne, q1, q2, hk, hd, w1, w2, b0, hkl, Int.toNat_natCast, dx, Span.cs, e, Span.t]
  · have hkd := hit.kd (by rw [hd]; exact hd00)
    rw [hk, Int.toNat_natCast] at hkd
    have hkl1 : ((k + 1 : Nat) : Int) < l.length := by omega
    obtain ⟨y, hy⟩ := get_lt hkl1
    have dy := flat_at Span.cs (n := 2) (fun _ => rfl) hy
    have ey := atS_eq hy
    have gy := hg y (List.mem_of_getElem? hy)
    have e : corr st l a = ⟨(x.lo * (st - d) + y.lo * d) / st, (x.hi * (st - d) + y.hi * d) / st⟩ := by unfold corr; simp only [hd, hk, Int.toNat_natCast, if_neg hd00, ex, ey]
    have b0 : (d == 0) = false := beq_int_f hd00
    have w3 : IntKind.i64.wrap ((k : Int) + 1) = ((k + 1 : Nat) : Int) := by rw [wrap_in (by omega) (by omega)]; omega
    have w4 : IntKind.i64.wrap (st - d) = st - d := wrap_in (by omega) (by omega)
    rw [hd] at hd0 hds
    have p1 := mulR (a := x.lo) (b := st - d) (m := 600) (n := 72000) (by omega) (by omega) (by omega)
    have p2 := mulR (a := y.lo) (b := d) (m := 600) (n := 72000) (by omega) (by omega) (by omega)
    have p3 := mulR (a := x.hi) (b := st - d) (m := 600) (n := 72000) (by omega) (by omega) (by omega)
    have p4 := mulR (a := y.hi) (b := d) (m := 600) (n := 72000) (by omega) (by omega) (by omega)
    obtain ⟨x0, x1⟩ := x
    obtain ⟨y0, y1⟩ := y
    simp only at *
    have w5 : IntKind.i64.wrap (x0 * (st - d)) = x0 * (st - d) := wrap_in (by omega) (by omega)
    have w6 : IntKind.i64.wrap (y0 * d) = y0 * d := wrap_in (by omega) (by omega)
    have w7 : IntKind.i64.wrap (x1 * (st - d)) = x1 * (st - d) := wrap_in (by omega) (by omega)
    have w8 : IntKind.i64.wrap (y1 * d) = y1 * d := wrap_in (by omega) (by omega)
    have w9 : IntKind.i64.wrap (x0 * (st - d) + y0 * d) = x0 * (st - d) + y0 * d := wrap_in (by omega) (by omega)
    have w10 : IntKind.i64.wrap (x1 * (st - d) + y1 * d) = x1 * (st - d) + y1 * d := wrap_in (by omega) (by omega)
    have c1 : 0 < st ∧ -4000000000000000000 ≤ x0 * (st - d) + y0 * d ∧ x0 * (st - d) + y0 * d ≤ 4000000000000000000 := by omega
    have c2 : 0 < st ∧ -4000000000000000000 ≤ x1 * (st - d) + y1 * d ∧ x1 * (st - d) + y1 * d ≤ 4000000000000000000 := by omega
    simp (decide := true) (maxSteps := 4000000) only [go_sem, Nat.reduceAdd, Nat.reduceSub, Nat.reduceMul, Nat.reduceDiv, Nat.reduceMod, Nat.reduceLT, Nat.reduceLeDiff, Nat.reduceEqDiff, Nat.reduceBEq, Nat.reduceBNe, Nat.reduceGT, Int.reduceAdd, Int.reduceSub, Int.reduceMul, Int.reduceNeg, Int.reduceLT, Int.reduceLE, Int.reduceEq, Int.reduceNe, Int.reduceBEq, Int.reduceBNe, Int.reduceToNat, Int.reduceGT, Int.reduceGE, ↓reduceIte, decide_true, decide_false, eq_self, Nat.mul_one, Nat.zero_mul, Nat.one_mul, Int.le_refl, Nat.le_refl, Int.cast_ofNat_Int, Try.f154, hne, q1, q2, hk, hd, w1, w2, w3, b0, hkl, hkl1, Int.toNat_natCast, dx, dy, w4, w5, w6, w7, w8, w9, w10, c1, c2, Span.cs, e, Span.t]
end Go.Proofs.Ytadkjjnnnkfalaa.Sx

/- Part Sd. -/
namespace Go.Proofs.Ytadkjjnnnkfalaa.Sx
end Go.Proofs.Ytadkjjnnnkfalaa.Sx
namespace Go.Os
open Go Go.Pm Go.Oc Go.Oh
def bdB (s : Span) : Bool := inB s.lo (-10000000) 10000000 && inB s.hi (-10000000) 10000000
theorem bdB_iff {s : Span} : bdB s = true ↔ (-10000000 ≤ s.lo ∧ s.lo ≤ 10000000) ∧ -10000000 ≤ s.hi ∧ s.hi ≤ 10000000 := by unfold bdB; rw [Bool.and_eq_true, inB_iff, inB_iff]
def sumL (l : List Span) : Span := l.foldl addS ⟨0, 0⟩
theorem sumL_snoc (l : List Span) (s : Span) : sumL (l ++ [s]) = addS (sumL l) s := by unfold sumL; rw [List.foldl_append]; rfl
theorem sumL_take {l : List Span} {k : Nat} {s : Span} (h : l[k]? = some s) : sumL (l.take (k + 1)) = addS (sumL (l.take k)) s := by rw [take_snoc h, sumL_snoc]
theorem sumL_b {l : List Span} (h : l.all bdB = true) : ∀ k, k ≤ l.length → (-(10000000 * (k : Int)) ≤ (sumL (l.take k)).lo ∧ (sumL (l.take k)).lo ≤ 10000000 * (k : Int)) ∧ -(10000000 * (k : Int)) ≤ (sumL (l.take k)).hi ∧ (sumL (l.take k)).hi ≤ 10000000 * (k : Int)
  | 0, _ => by simp [sumL]
  | k + 1, hk => by
    have ih := sumL_b h k (by omega)
    have hx := List.getElem?_eq_getElem (show k < l.length by omega)
    have hb := bdB_iff.1 (List.all_eq_true.1 h _ (List.mem_of_getElem? hx))
    rw [sumL_take hx]
    simp only [addS]
    omega
/-- What adds to an angle. -/
inductive Ad where
  | fix (s : Span)
  | tab (st : Int) (l : List Span) (f : Bool)
def Ad.tv : Ad → TV
  | .fix s => .ifc 226 s.t
  | .tab st l f => .ifc 228 (.agg [.int .i64 st, .sl (l.flatMap Span.cs) l.length f])
def Ad.cs (a : Ad) : List TV := [a.tv]
theorem Ad.cs_inj (x y : Ad) (h : x.cs = y.cs) : x = y := by
  simp only [Ad.cs, List.cons.injEq, and_true] at h
  cases x with
  | fix s => cases y with
    | fix s' =>
      obtain ⟨a, b⟩ := s; obtain ⟨c, d⟩ := s'
      simp only [Ad.tv, Span.t, Span.cs, TV.ifc.injEq, TV.agg.injEq, List.cons.injEq, TV.int.injEq, true_and, and_true] at h
      rw [h.1, h.2]
    | tab => simp [Ad.tv] at h
  | tab st l f => cases y with
    | fix => simp [Ad.tv] at h
    | tab st' l' f' =>
      simp only [Ad.tv, TV.ifc.injEq, TV.agg.injEq, List.cons.injEq, TV.int.injEq, TV.sl.injEq, true_and, and_true] at h
      obtain ⟨h1, h2, _, h4⟩ := h
      rw [h1, h4, flat_inj (c := Span.cs) (n := 2) (fun _ => rfl) (by decide) (fun x y h => by
        obtain ⟨a, b⟩ := x; obtain ⟨c, d⟩ := y
        simp only [Span.cs, List.cons.injEq, TV.int.injEq, true_and, and_true] at h
        rw [h.1, h.2]) h2]
noncomputable def unA (cs : List TV) : Option (List Ad) := unflat Ad.cs cs
theorem unA_eq (l : List Ad) : unA (l.flatMap Ad.cs) = some l := unflat_eq (n := 1) (fun _ => rfl) (by decide) Ad.cs_inj l
theorem unA_nil : unA [] = some [] := unA_eq []
theorem unA_some {cs : List TV} {l : List Ad} (h : unA cs = some l) : cs = l.flatMap Ad.cs := unflat_some h
attribute [go_sem] unA_eq unA_nil
/-- What it adds at an angle. -/
def Ad.at' : Ad → Int → Span
  | .fix s, _ => s
  | .tab st l _, a => corr st l a
def Ad.ok (a : Int) : Ad → Bool
  | .fix s => bdB s
  | .tab st l _ => inB st 1 72000 && (decide (1 ≤ l.length ∧ l.length ≤ 9000000000000) && (l.all (spannedB · (-600) 600) && (decide (0 ≤ a ∧ a ≤ 504000) && decide (a ≤ st * (l.length - 1)))))
theorem Ad.at_b {a : Int} {x : Ad} (h : x.ok a = true) : bdB (x.at' a) = true := by
  cases x with
  | fix s => exact h
  | tab st l f =>
    simp only [Ad.ok, Bool.and_eq_true, inB_iff, decide_eq_true_eq, List.all_eq_true, spannedB_iff] at h
    obtain ⟨h1, h2, h3, h4, h5⟩ := h
    have := corr_b (inTab h1.1 h2.1 h4.1 h5) h3
    rw [bdB_iff]
    simp only [Ad.at']
    omega
/-- The shades that are used, so many looked at. -/
def shA (x : Sx) (set : Nat) (k : Nat) : List Ad := .fix ⟨-x.wrong, x.wrong⟩ :: ((List.range k).filter set.testBit).map fun i => .fix (atS x.shade i)
theorem shA_t {x : Sx} {set k : Nat} (h : set.testBit k = true) : shA x set (k + 1) = shA x set k ++ [.fix (atS x.shade k)] := by
  simp [shA, List.range_succ, List.filter_append, h]
theorem shA_f {x : Sx} {set k : Nat} (h : set.testBit k = false) : shA x set (k + 1) = shA x set k := by
  simp [shA, List.range_succ, List.filter_append, h]
theorem shA_len (x : Sx) (set : Nat) : ∀ k, 1 ≤ (shA x set k).length ∧ (shA x set k).length ≤ k + 1
  | 0 => by simp [shA]
  | k + 1 => by
    have := shA_len x set k
    cases h : set.testBit k with
    | false => rw [shA_f h]; omega
    | true => rw [shA_t h, List.length_append, List.length_singleton]; omega
theorem addS_zero (s : Span) : addS ⟨0, 0⟩ s = s := by simp [addS]
theorem shA_sum (x : Sx) (set : Nat) (a : Int) : ∀ k, sumL ((shA x set k).map (·.at' a)) = shTo x set k
  | 0 => by simp [shA, sumL, shTo, Ad.at', addS]
  | k + 1 => by
    rw [shTo_succ]
    cases h : set.testBit k with
    | false => rw [shA_f h, shA_sum x set a k]; rfl
    | true => rw [shA_t h, List.map_append, List.map_singleton, sumL_snoc, shA_sum x set a k]; rfl
theorem shA_ok {x : Sx} (hg : GoodS x) (set : Nat) (a : Int) : ∀ k, k ≤ x.shade.length → (shA x set k).all (Ad.ok a) = true
  | 0, _ => by
    have := hg.wr
    have : bdB ⟨-x.wrong, x.wrong⟩ = true := bdB_iff.2 (by simp only; omega)
    simp [shA, Ad.ok, this]
  | k + 1, hk => by
    have ih := shA_ok hg set a k (by omega)
    cases h : set.testBit k with
    | false => rw [shA_f h]; exact ih
    | true =>
      have hs := hg.shade _ (atS_mem (show k < x.shade.length by omega))
      have : bdB (atS x.shade k) = true := bdB_iff.2 (by omega)
      rw [shA_t h, List.all_append, ih]
      simp [Ad.ok, this]
end Go.Os
namespace Go.Proofs.Ytadkjjnnnkfalaa.Sx
open Go.RowKit Go.Pm Go.Oc Go.Oh Go.Os
set_option maxRecDepth 100000
set_option linter.unusedVariables false
set_option maxHeartbeats 4000000

theorem sSum_c {l : List Span} {s : TV} (hl : IsRow Span.cs s l) (hb : l.all bdB = true) (h16 : l.length ≤ 16) : PCalls Try.prog 122 [s] (sumL l).t := by
  refine pcalls_by Try.mixes noSpec_ok (fn := Try.f122) Try.func122 rfl (by kernel_rfl) (by show 1 ≤ _; decide) ?_
  rcases hl with ⟨rfl, rfl⟩ | ⟨f, rfl⟩
  · simp (decide := true) (maxSteps := 4000000) only [go_sem, Nat.reduceAdd, Nat.reduceSub, Nat.reduceMul, Nat.reduceDiv, Nat.reduceMod, Nat.reduceLT, Nat.reduceLeDiff, Nat.reduceEqDiff, Nat.reduceBEq, Nat.reduceBNe, Nat.reduceGT, Int.reduceAdd, Int.reduceSub, Int.reduceMul, Int.reduceNeg, Int.reduceLT, Int.reduceLE, Int.reduceEq, Int.reduceNe, Int.reduceBEq, Int.reduceBNe, Int.reduceToNat, Int.reduceGT, Int.reduceGE, ↓reduceIte, decide_true, decide_false, eq_self, Nat.mul_one, Nat.zero_mul, Nat.one_mul, Int.le_refl, Nat.le_refl, Int.cast_ofNat_Int, Try.f122]
    refine pwpC_loopU (A := Unit) [2, 3, 6, 7] (fun _ => [(8, .t (.int .i64 0))]) (fun _ => []) (fun _ => 0) () (by decide) (fun _ => by rfl) ?_ fun Q1 hQ1 _ I1 hI1 => ?_
    · simp (decide := true) (maxSteps := 4000000) only [go_sem, Nat.reduceAdd, Nat.reduceSub, Nat.reduceMul, Nat.reduceDiv, Nat.reduceMod, Nat.reduceLT, Nat.reduceLeDiff, Nat.reduceEqDiff, Nat.reduceBEq, Nat.reduceBNe, Nat.reduceGT, Int.reduceAdd, Int.reduceSub, Int.reduceMul, Int.reduceNeg, Int.reduceLT, Int.reduceLE, Int.reduceEq, Int.reduceNe, Int.reduceBEq, Int.reduceBNe, Int.reduceToNat, Int.reduceGT, Int.reduceGE, ↓reduceIte, decide_true, decide_false, eq_self, Nat.mul_one, Nat.zero_mul, Nat.one_mul, Int.le_refl, Nat.le_refl, Int.cast_ofNat_Int]
    · simp (decide := true) (maxSteps := 4000000) only [go_sem, Nat.reduceAdd, Nat.reduceSub, Nat.reduceMul, Nat.reduceDiv, Nat.reduceMod, Nat.reduceLT, Nat.reduceLeDiff, Nat.reduceEqDiff, Nat.reduceBEq, Nat.reduceBNe, Nat.reduceGT, Int.reduceAdd, Int.reduceSub, Int.reduceMul, Int.reduceNeg, Int.reduceLT, Int.reduceLE, Int.reduceEq, Int.reduceNe, Int.reduceBEq, Int.reduceBNe, Int.reduceToNat, Int.reduceGT, Int.reduceGE, ↓reduceIte, decide_true, decide_false, eq_self, Nat.mul_one, Nat.zero_mul, Nat.one_mul, Int.le_refl, Nat.le_refl, Int.cast_ofNat_Int]
      refine hQ1 _ _ ?_
      simp (decide := true) (maxSteps := 4000000) only [go_sem, Nat.reduceAdd, Nat.reduceSub, Nat.reduceMul, Nat.reduceDiv, Nat.reduceMod, Nat.reduceLT, Nat.reduceLeDiff, Nat.reduceEqDiff, Nat.reduceBEq, Nat.reduceBNe, Nat.reduceGT, Int.reduceAdd, Int.reduceSub, Int.reduceMul, Int.reduceNeg, Int.reduceLT, Int.reduceLE, Int.reduceEq, Int.reduceNe, Int.reduceBEq, Int.reduceBNe, Int.reduceToNat, Int.reduceGT, Int.reduceGE, ↓reduceIte, decide_true, decide_false, eq_self, Nat.mul_one, Nat.zero_mul, Nat.one_mul, Int.le_refl, Nat.le_refl, Int.cast_ofNat_Int, sumL, Span.t, Span.cs]
  · simp (decide := true) (maxSteps := 4000000) only [go_sem, Nat.reduceAdd, Nat.reduceSub, Nat.reduceMul, Nat.reduceDiv, Nat.reduceMod, Nat.reduceLT, Nat.reduceLeDiff, Nat.reduceEqDiff, Nat.reduceBEq, Nat.reduceBNe, Nat.reduceGT, Int.reduceAdd, Int.reduceSub, Int.reduceMul, Int.reduceNeg, Int.reduceLT, Int.reduceLE, Int.reduceEq, Int.reduceNe, Int.reduceBEq, Int.reduceBNe, Int.reduceToNat, Int.reduceGT, Int.reduceGE, ↓reduceIte, decide_true, decide_false, eq_self, Nat.mul_one, Nat.zero_mul, Nat.one_mul, Int.le_refl, Nat.le_refl, Int.cast_ofNat_Int, Try.f122]
    refine pwpC_loopU (A := { k : Nat // k ≤ l.length }) [2, 3, 6, 7] (fun k => [(8, .t (.int .i64 k.1))]) (fun k => [(1, .box ((sumL (l.take k.1)).cs.map .t))]) (fun k => l.length - k.1) ⟨0, by omega⟩ (by decide) (fun _ => by rfl) ?_ fun Q1 hQ1 ⟨k, hk⟩ I1 hI1 => ?_
    · simp (decide := true) (maxSteps := 4000000) only [go_sem, Nat.reduceAdd, Nat.reduceSub, Nat.reduceMul, Nat.reduceDiv, Nat.reduceMod, Nat.reduceLT, Nat.reduceLeDiff, Nat.reduceEqDiff, Nat.reduceBEq, Nat.reduceBNe, Nat.reduceGT, Int.reduceAdd, Int.reduceSub, Int.reduceMul, Int.reduceNeg, Int.reduceLT, Int.reduceLE, Int.reduceEq, Int.reduceNe, Int.reduceBEq, Int.reduceBNe, Int.reduceToNat, Int.reduceGT, Int.reduceGE, ↓reduceIte, decide_true, decide_false, eq_self, Nat.mul_one, Nat.zero_mul, Nat.one_mul, Int.le_refl, Nat.le_refl, Int.cast_ofNat_Int, sumL, Span.cs, List.take_zero]
    · by_cases hlt : (k : Int) < l.length
      · obtain ⟨x, hx⟩ := get_lt hlt
        have hd := flat_at Span.cs (n := 2) (fun _ => rfl) hx
        have hc1 : IntKind.i64.wrap (k + 1) = ((k + 1 : Nat) : Int) := by rw [wrap_in (by omega) (by omega)]; omega
        have hs := sumL_b hb k hk
        have hxb := bdB_iff.1 (List.all_eq_true.1 hb _ (List.mem_of_getElem? hx))
        have hnx := sumL_take hx
        obtain ⟨S, hS⟩ : ∃ S, sumL (l.take k) = S := ⟨_, rfl⟩
        rw [hS] at hs hnx
        have w1 : IntKind.i64.wrap (S.lo + x.lo) = S.lo + x.lo := wrap_in (by omega) (by omega)
        have w2 : IntKind.i64.wrap (S.hi + x.hi) = S.hi + x.hi := wrap_in (by omega) (by omega)
        simp (decide := true) (maxSteps := 4000000) only [go_sem, Nat.reduceAdd, Nat.reduceSub, Nat.reduceMul, Nat.reduceDiv, Nat.reduceMod, Nat.reduceLT, Nat.reduceLeDiff, Nat.reduceEqDiff, Nat.reduceBEq, Nat.reduceBNe, Nat.reduceGT, Int.reduceAdd, Int.reduceSub, Int.reduceMul, Int.reduceNeg, Int.reduceLT, Int.reduceLE, Int.reduceEq, Int.reduceNe, Int.reduceBEq, Int.reduceBNe, Int.reduceToNat, Int.reduceGT, Int.reduceGE, ↓reduceIte, decide_true, decide_false, eq_self, Nat.mul_one, Nat.zero_mul, Nat.one_mul, Int.le_refl, Nat.le_refl, Int.cast_ofNat_Int, hlt, hd, Span.cs, w1, w2, hS]
        refine hI1 _ ⟨k + 1, by omega⟩ (by simp only; omega) ?_
        simp (decide := true) (maxSteps := 4000000) only [go_sem, Nat.reduceAdd, Nat.reduceSub, Nat.reduceMul, Nat.reduceDiv, Nat.reduceMod, Nat.reduceLT, Nat.reduceLeDiff, Nat.reduceEqDiff, Nat.reduceBEq, Nat.reduceBNe, Nat.reduceGT, Int.reduceAdd, Int.reduceSub, Int.reduceMul, Int.reduceNeg, Int.reduceLT, Int.reduceLE, Int.reduceEq, Int.reduceNe, Int.reduceBEq, Int.reduceBNe, Int.reduceToNat, Int.reduceGT, Int.reduceGE, ↓reduceIte, decide_true, decide_false, eq_self, Nat.mul_one, Nat.zero_mul, Nat.one_mul, Int.le_refl, Nat.le_refl, Int.cast_ofNat_Int, hc1, hnx, addS, Span.cs]
      · have hke : k = l.length := by omega
        subst hke
        simp (decide := true) (maxSteps := 4000000) only [go_sem, Nat.reduceAdd, Nat.reduceSub, Nat.reduceMul, Nat.reduceDiv, Nat.reduceMod, Nat.reduceLT, Nat.reduceLeDiff, Nat.reduceEqDiff, Nat.reduceBEq, Nat.reduceBNe, Nat.reduceGT, Int.reduceAdd, Int.reduceSub, Int.reduceMul, Int.reduceNeg, Int.reduceLT, Int.reduceLE, Int.reduceEq, Int.reduceNe, Int.reduceBEq, Int.reduceBNe, Int.reduceToNat, Int.reduceGT, Int.reduceGE, ↓reduceIte, decide_true, decide_false, eq_self, Nat.mul_one, Nat.zero_mul, Nat.one_mul, Int.le_refl, Nat.le_refl, Int.cast_ofNat_Int, hlt, List.take_length, Span.cs]
        refine hQ1 _ _ ?_
        simp (decide := true) (maxSteps := 4000000) only [go_sem, Nat.reduceAdd, Nat.reduceSub, Nat.reduceMul, Nat.reduceDiv, Nat.reduceMod, Nat.reduceLT, Nat.reduceLeDiff, Nat.reduceEqDiff, Nat.reduceBEq, Nat.reduceBNe, Nat.reduceGT, Int.reduceAdd, Int.reduceSub, Int.reduceMul, Int.reduceNeg, Int.reduceLT, Int.reduceLE, Int.reduceEq, Int.reduceNe, Int.reduceBEq, Int.reduceBNe, Int.reduceToNat, Int.reduceGT, Int.reduceGE, ↓reduceIte, decide_true, decide_false, eq_self, Nat.mul_one, Nat.zero_mul, Nat.one_mul, Int.le_refl, Nat.le_refl, Int.cast_ofNat_Int, List.take_length, Span.t, Span.cs]
noncomputable def sxSum : List TV → Option TV
  | [s] => match rowL unS s with
    | some l => if l.all bdB = true ∧ l.length ≤ 16 then some ((sumL l).t) else none
    | none => none
  | _ => none
theorem sxSum_ok : ∀ xs r, sxSum xs = some r → PCalls Try.prog 122 xs r := by
  intro xs r h
  unfold sxSum at h
  split at h
  · split at h
    · rename_i l hl
      have hl := rowL_some (un := unS) (by first | rfl | exact unS_nil) (@unS_some) hl
      split at h
      · rename_i hc; cases h; exact sSum_c hl hc.1 hc.2
      · cases h
    · cases h
  · cases h
attribute [go_sem] sxSum
noncomputable def sxTable2 : List TV → Option TV
  | [.agg [.int .i64 st, .sl cs n f], .int .i64 a] => match unS cs with
    | some l => if n = l.length ∧ Ad.ok a (.tab st l f) = true then some (corr st l a).t else none
    | none => none
  | _ => none
theorem sxTable2_ok : ∀ xs r, sxTable2 xs = some r → PCalls Try.prog 154 xs r := by
  intro xs r h
  unfold sxTable2 at h
  split at h
  · split at h
    · rename_i l hl
      split at h
      · rename_i hc; cases h
        obtain ⟨rfl, hc⟩ := hc
        have := unS_some hl
        subst this
        simp only [Ad.ok, Bool.and_eq_true, inB_iff, decide_eq_true_eq] at hc
        obtain ⟨h1, h2, h3, h4, h5⟩ := hc
        exact sTable_c _ h1 h3 h2.1 h2.2 h4.1 h4.2 h5
      · cases h
    · cases h
  · cases h
attribute [go_sem] sxTable2
noncomputable def spSh : Pm.Spec := ((noSpec.one 153 sxFixed).one 154 sxTable2).one 122 sxSum
@[go_sem] theorem spSh_p (f : FuncId) (xs : List TV) : spSh.p f xs = Pm.Spec.p (((noSpec.one 153 sxFixed).one 154 sxTable2).one 122 sxSum) f xs := rfl
@[go_sem] theorem spSh_h (f : FuncId) (ps : List PV) (hl : List PO) : spSh.h f ps hl = Pm.Spec.h (((noSpec.one 153 sxFixed).one 154 sxTable2).one 122 sxSum) f ps hl := rfl
@[go_sem] theorem spSh_y (Y : Pm.YS) (f : FuncId) (ps : List PV) (hl : List PO) : spSh.y Y f ps hl = Pm.Spec.y (((noSpec.one 153 sxFixed).one 154 sxTable2).one 122 sxSum) Y f ps hl := rfl
@[go_sem] theorem spSh_fz (f : FuncId) : spSh.fz f = Pm.Spec.fz (((noSpec.one 153 sxFixed).one 154 sxTable2).one 122 sxSum) f := rfl
@[go_sem] theorem spSh_fr (f : FuncId) : spSh.fr f = Pm.Spec.fr (((noSpec.one 153 sxFixed).one 154 sxTable2).one 122 sxSum) f := rfl
@[go_sem] theorem spSh_yf (f : FuncId) : spSh.yf f = Pm.Spec.yf (((noSpec.one 153 sxFixed).one 154 sxTable2).one 122 sxSum) f := rfl
@[go_sem] theorem spSh_mu (t : TypeId) : spSh.mu t = Pm.Spec.mu (((noSpec.one 153 sxFixed).one 154 sxTable2).one 122 sxSum) t := rfl
@[go_sem] theorem spSh_nf (t : TypeId) : spSh.nf t = Pm.Spec.nf (((noSpec.one 153 sxFixed).one 154 sxTable2).one 122 sxSum) t := rfl
theorem spSh_ok : SpecOk Try.prog spSh := Spec.one_ok sxSum_ok (Spec.one_ok sxTable2_ok (Spec.one_ok sxFixed_ok noSpec_ok))
theorem mthFixed : methodO Try.prog 226 ((nameAt Try.f114 0).getD Try.f83.name) = some 153 := by kernel_rfl
theorem mthTable : methodO Try.prog 228 ((nameAt Try.f114 0).getD Try.f83.name) = some 154 := by kernel_rfl
theorem sAdded_c (a : Int) (l : List Ad) (f : Bool) (hl : l.all (Ad.ok a) = true) (h16 : l.length ≤ 16) : PCalls Try.prog 114 [.int .i64 a, .sl (l.flatMap Ad.cs) l.length f] (sumL (l.map (·.at' a))).t := by
  have m1 := mth_of (l := nameAt Try.f114 0) rfl mthFixed
  have m2 := mth_of (l := nameAt Try.f114 0) rfl mthTable
  have hall : (l.map (·.at' a)).all bdB = true := by
    rw [List.all_map, List.all_eq_true]
    exact fun x hx => Ad.at_b (List.all_eq_true.1 hl x hx)
  refine pcalls_by Try.mixes spSh_ok (fn := Try.f114) Try.func114 rfl (by kernel_rfl) (by show 2 ≤ _; decide) ?_
  simp (decide := true) (maxSteps := 4000000) only [go_sem, Nat.reduceAdd, Nat.reduceSub, Nat.reduceMul, Nat.reduceDiv, Nat.reduceMod, Nat.reduceLT, Nat.reduceLeDiff, Nat.reduceEqDiff, Nat.reduceBEq, Nat.reduceBNe, Nat.reduceGT, Int.reduceAdd, Int.reduceSub, Int.reduceMul, Int.reduceNeg, Int.reduceLT, Int.reduceLE, Int.reduceEq, Int.reduceNe, Int.reduceBEq, Int.reduceBNe, Int.reduceToNat, Int.reduceGT, Int.reduceGE, ↓reduceIte, decide_true, decide_false, eq_self, Nat.mul_one, Nat.zero_mul, Nat.one_mul, Int.le_refl, Nat.le_refl, Int.cast_ofNat_Int, Try.f114]
  refine pwpC_loopU (A := { k : Nat // k ≤ l.length }) [0, 1, 4, 8, 9] (fun k => [(10, .t (.int .i64 k.1)), (5, .own (((l.take k.1).map (·.at' a)).flatMap Span.cs) k.1 1)]) (fun k => [(1, .tok k.1 29)]) (fun k => l.length - k.1) ⟨0, by omega⟩ (by decide) (fun _ => by rfl) ?_ fun Q1 hQ1 ⟨k, hk⟩ I1 hI1 => ?_
  · simp (decide := true) (maxSteps := 4000000) only [go_sem, Nat.reduceAdd, Nat.reduceSub, Nat.reduceMul, Nat.reduceDiv, Nat.reduceMod, Nat.reduceLT, Nat.reduceLeDiff, Nat.reduceEqDiff, Nat.reduceBEq, Nat.reduceBNe, Nat.reduceGT, Int.reduceAdd, Int.reduceSub, Int.reduceMul, Int.reduceNeg, Int.reduceLT, Int.reduceLE, Int.reduceEq, Int.reduceNe, Int.reduceBEq, Int.reduceBNe, Int.reduceToNat, Int.reduceGT, Int.reduceGE, ↓reduceIte, decide_true, decide_false, eq_self, Nat.mul_one, Nat.zero_mul, Nat.one_mul, Int.le_refl, Nat.le_refl, Int.cast_ofNat_Int, List.take_zero]
    first | done | exact ⟨rfl, rfl⟩ | rfl
  · by_cases hlt : (k : Int) < l.length
    · obtain ⟨x, hx⟩ := get_lt hlt
      have hd := flat_at Ad.cs (n := 1) (fun _ => rfl) hx
      rw [Nat.mul_one] at hd
      have hc1 : IntKind.i64.wrap (k + 1) = ((k + 1 : Nat) : Int) := by rw [wrap_in (by omega) (by omega)]; omega
      have hok := List.all_eq_true.1 hl x (List.mem_of_getElem? hx)
      have hr : (k + 1) * 16 ≤ 140737488355328 := by omega
      have e1 : (((l.take k).map (·.at' a)).flatMap Span.cs).length = k * 2 := by rw [flat_len Span.cs (n := 2) (fun _ => rfl), List.length_map, List.length_take]; congr 1; omega
      have hnx : (l.take (k + 1)).map (·.at' a) = (l.take k).map (·.at' a) ++ [x.at' a] := by rw [take_snoc hx, List.map_append]; rfl
      cases x with
      | fix s =>
        simp (decide := true) (maxSteps := 4000000) only [go_sem, Nat.reduceAdd, Nat.reduceSub, Nat.reduceMul, Nat.reduceDiv, Nat.reduceMod, Nat.reduceLT, Nat.reduceLeDiff, Nat.reduceEqDiff, Nat.reduceBEq, Nat.reduceBNe, Nat.reduceGT, Int.reduceAdd, Int.reduceSub, Int.reduceMul, Int.reduceNeg, Int.reduceLT, Int.reduceLE, Int.reduceEq, Int.reduceNe, Int.reduceBEq, Int.reduceBNe, Int.reduceToNat, Int.reduceGT, Int.reduceGE, ↓reduceIte, decide_true, decide_false, eq_self, Nat.mul_one, Nat.zero_mul, Nat.one_mul, Int.le_refl, Nat.le_refl, Int.cast_ofNat_Int, hlt, hd, Ad.cs, Ad.tv, Span.t, Span.cs, m1, hr, e1]
        refine hI1 _ ⟨k + 1, by omega⟩ (by simp only; omega) ?_
        have hnx' : ((l.take (k + 1)).map (·.at' a)).flatMap Span.cs = ((l.take k).map (·.at' a)).flatMap Span.cs ++ [.int .i64 s.lo, .int .i64 s.hi] := by rw [hnx, List.flatMap_append]; rfl
        simp (decide := true) (maxSteps := 4000000) only [go_sem, Nat.reduceAdd, Nat.reduceSub, Nat.reduceMul, Nat.reduceDiv, Nat.reduceMod, Nat.reduceLT, Nat.reduceLeDiff, Nat.reduceEqDiff, Nat.reduceBEq, Nat.reduceBNe, Nat.reduceGT, Int.reduceAdd, Int.reduceSub, Int.reduceMul, Int.reduceNeg, Int.reduceLT, Int.reduceLE, Int.reduceEq, Int.reduceNe, Int.reduceBEq, Int.reduceBNe, Int.reduceToNat, Int.reduceGT, Int.reduceGE, ↓reduceIte, decide_true, decide_false, eq_self, Nat.mul_one, Nat.zero_mul, Nat.one_mul, Int.le_refl, Nat.le_refl, Int.cast_ofNat_Int, hc1, hnx']
      | tab st t g =>
        simp (decide := true) (maxSteps := 4000000) only [go_sem, Nat.reduceAdd, Nat.reduceSub, Nat.reduceMul, Nat.reduceDiv, Nat.reduceMod, Nat.reduceLT, Nat.reduceLeDiff, Nat.reduceEqDiff, Nat.reduceBEq, Nat.reduceBNe, Nat.reduceGT, Int.reduceAdd, Int.reduceSub, Int.reduceMul, Int.reduceNeg, Int.reduceLT, Int.reduceLE, Int.reduceEq, Int.reduceNe, Int.reduceBEq, Int.reduceBNe, Int.reduceToNat, Int.reduceGT, Int.reduceGE, ↓reduceIte, decide_true, decide_false, eq_self, Nat.mul_one, Nat.zero_mul, Nat.one_mul, Int.le_refl, Nat.le_refl, Int.cast_ofNat_Int, hlt, hd, Ad.cs, Ad.tv, Span.t, Span.cs, m2, hr, e1, unS_eq, hok]
        refine hI1 _ ⟨k + 1, by omega⟩ (by simp only; omega) ?_
        have hnx' : ((l.take (k + 1)).map (·.at' a)).flatMap Span.cs = ((l.take k).map (·.at' a)).flatMap Span.cs ++ [.int .i64 (corr st t a).lo, .int .i64 (corr st t a).hi] := by rw [hnx, List.flatMap_append]; rfl
        simp (decide := true) (maxSteps := 4000000) only [go_sem, Nat.reduceAdd, Nat.reduceSub, Nat.reduceMul, Nat.reduceDiv, Nat.reduceMod, Nat.reduceLT, Nat.reduceLeDiff, Nat.reduceEqDiff, Nat.reduceBEq, Nat.reduceBNe, Nat.reduceGT, Int.reduceAdd, Int.reduceSub, Int.reduceMul, Int.reduceNeg, Int.reduceLT, Int.reduceLE, Int.reduceEq, Int.reduceNe, Int.reduceBEq, Int.reduceBNe, Int.reduceToNat, Int.reduceGT, Int.reduceGE, ↓reduceIte, decide_true, decide_false, eq_self, Nat.mul_one, Nat.zero_mul, Nat.one_mul, Int.le_refl, Nat.le_refl, Int.cast_ofNat_Int, hc1, hnx']
    · have hke : k = l.length := by omega
      subst hke
      simp (decide := true) (maxSteps := 4000000) only [go_sem, Nat.reduceAdd, Nat.reduceSub, Nat.reduceMul, Nat.reduceDiv, Nat.reduceMod, Nat.reduceLT, Nat.reduceLeDiff, Nat.reduceEqDiff, Nat.reduceBEq, Nat.reduceBNe, Nat.reduceGT, Int.reduceAdd, Int.reduceSub, Int.reduceMul, Int.reduceNeg, Int.reduceLT, Int.reduceLE, Int.reduceEq, Int.reduceNe, Int.reduceBEq, Int.reduceBNe, Int.reduceToNat, Int.reduceGT, Int.reduceGE, ↓reduceIte, decide_true, decide_false, eq_self, Nat.mul_one, Nat.zero_mul, Nat.one_mul, Int.le_refl, Nat.le_refl, Int.cast_ofNat_Int, hlt, List.take_length]
      refine hQ1 _ _ ?_
      have hml : (l.map (·.at' a)).length = l.length := List.length_map _
      rcases Nat.eq_zero_or_pos l.length with h0 | h0
      · have hn : l = [] := List.length_eq_zero_iff.1 h0
        subst hn
        simp (decide := true) (maxSteps := 4000000) only [go_sem, Nat.reduceAdd, Nat.reduceSub, Nat.reduceMul, Nat.reduceDiv, Nat.reduceMod, Nat.reduceLT, Nat.reduceLeDiff, Nat.reduceEqDiff, Nat.reduceBEq, Nat.reduceBNe, Nat.reduceGT, Int.reduceAdd, Int.reduceSub, Int.reduceMul, Int.reduceNeg, Int.reduceLT, Int.reduceLE, Int.reduceEq, Int.reduceNe, Int.reduceBEq, Int.reduceBNe, Int.reduceToNat, Int.reduceGT, Int.reduceGE, ↓reduceIte, decide_true, decide_false, eq_self, Nat.mul_one, Nat.zero_mul, Nat.one_mul, Int.le_refl, Nat.le_refl, Int.cast_ofNat_Int, List.take_length, h0, List.length_nil, List.map_nil, unS_nil, sumL, Span.t, Span.cs]
      · have h0' : ¬ l.length = 0 := by omega
        simp (decide := true) (maxSteps := 4000000) only [go_sem, Nat.reduceAdd, Nat.reduceSub, Nat.reduceMul, Nat.reduceDiv, Nat.reduceMod, Nat.reduceLT, Nat.reduceLeDiff, Nat.reduceEqDiff, Nat.reduceBEq, Nat.reduceBNe, Nat.reduceGT, Int.reduceAdd, Int.reduceSub, Int.reduceMul, Int.reduceNeg, Int.reduceLT, Int.reduceLE, Int.reduceEq, Int.reduceNe, Int.reduceBEq, Int.reduceBNe, Int.reduceToNat, Int.reduceGT, Int.reduceGE, ↓reduceIte, decide_true, decide_false, eq_self, Nat.mul_one, Nat.zero_mul, Nat.one_mul, Int.le_refl, Nat.le_refl, Int.cast_ofNat_Int, List.take_length, h0', unS_eq, hml, hall, h16, Span.t, Span.cs]
noncomputable def sxAdded : List TV → Option TV
  | [.int .i64 a, .sl cs n f] => match unA cs with
    | some l => if n = l.length ∧ l.all (Ad.ok a) = true ∧ l.length ≤ 16 then some (sumL (l.map (·.at' a))).t else none
    | none => none
  | _ => none
theorem sxAdded_ok : ∀ xs r, sxAdded xs = some r → PCalls Try.prog 114 xs r := by
  intro xs r h
  unfold sxAdded at h
  split at h
  · split at h
    · rename_i l hl
      split at h
      · rename_i hc; cases h
        obtain ⟨rfl, h1, h2⟩ := hc
        have := unA_some hl
        subst this
        exact sAdded_c _ l _ h1 h2
      · cases h
    · cases h
  · cases h
attribute [go_sem] sxAdded
end Go.Proofs.Ytadkjjnnnkfalaa.Sx

/- Part Se. -/
namespace Go.Proofs.Ytadkjjnnnkfalaa.Sx
end Go.Proofs.Ytadkjjnnnkfalaa.Sx
namespace Go.Proofs.Ytadkjjnnnkfalaa.Sx
open Go.RowKit Go.Pm Go.Oc Go.Oh Go.Os
set_option maxRecDepth 100000
set_option linter.unusedVariables false
set_option maxHeartbeats 4000000

noncomputable def spSi : Pm.Spec := { noSpec with mu := fun t => t == 224 }
@[go_sem] theorem spSi_p (f : FuncId) (xs : List TV) : spSi.p f xs = Pm.Spec.p ({ noSpec with mu := fun t => t == 224 }) f xs := rfl
@[go_sem] theorem spSi_h (f : FuncId) (ps : List PV) (hl : List PO) : spSi.h f ps hl = Pm.Spec.h ({ noSpec with mu := fun t => t == 224 }) f ps hl := rfl
@[go_sem] theorem spSi_y (Y : Pm.YS) (f : FuncId) (ps : List PV) (hl : List PO) : spSi.y Y f ps hl = Pm.Spec.y ({ noSpec with mu := fun t => t == 224 }) Y f ps hl := rfl
@[go_sem] theorem spSi_fz (f : FuncId) : spSi.fz f = Pm.Spec.fz ({ noSpec with mu := fun t => t == 224 }) f := rfl
@[go_sem] theorem spSi_fr (f : FuncId) : spSi.fr f = Pm.Spec.fr ({ noSpec with mu := fun t => t == 224 }) f := rfl
@[go_sem] theorem spSi_yf (f : FuncId) : spSi.yf f = Pm.Spec.yf ({ noSpec with mu := fun t => t == 224 }) f := rfl
@[go_sem] theorem spSi_mu (t : TypeId) : spSi.mu t = Pm.Spec.mu ({ noSpec with mu := fun t => t == 224 }) t := rfl
@[go_sem] theorem spSi_nf (t : TypeId) : spSi.nf t = Pm.Spec.nf ({ noSpec with mu := fun t => t == 224 }) t := rfl
theorem spSi_ok : SpecOk Try.prog spSi := ⟨noSpec_ok.1, noSpec_ok.2⟩
/-- What reading hands back, and its object. -/
def rdV (l : List Ad) : PV := .gsl 1 (l.length - 1) 1 0 l.length false
def rdO (x : Sx) (sT sS : TV) (l : List Ad) : List PO := [.box ((x.cs sT sS).map .t), .grow (l.length - 1) ((l.flatMap Ad.cs).map .t) 243 1]
theorem sReading_c (x : Sx) {sT sS : TV} (hS : IsRow Span.cs sS x.shade) (hv : sxOk x = true) (set : Nat) (hset : set < 64) : HCalls Try.prog 113 [.t (x.t sT sS), .t (.int .i64 set)] (getL []) (rdV (shA x set x.shade.length)) (getL (rdO x sT sS (shA x set x.shade.length))) := by
  have h := sxOk_iff.1 hv
  have h6 := h.sh
  have w1 : IntKind.i64.wrap (0 - x.wrong) = -x.wrong := by have := h.wr; rw [wrap_in (by omega) (by omega)]; omega
  refine hcalls_by Try.mixes spSi_ok (fn := Try.f113) Try.func113 rfl (by kernel_rfl) (by show 2 ≤ _; decide) ?_
  rcases hS with ⟨rfl, hS⟩ | ⟨f, rfl⟩
  · have e : x.shade.length = 0 := by rw [hS]; rfl
    simp (decide := true) (maxSteps := 4000000) only [go_sem, Nat.reduceAdd, Nat.reduceSub, Nat.reduceMul, Nat.reduceDiv, Nat.reduceMod, Nat.reduceLT, Nat.reduceLeDiff, Nat.reduceEqDiff, Nat.reduceBEq, Nat.reduceBNe, Nat.reduceGT, Int.reduceAdd, Int.reduceSub, Int.reduceMul, Int.reduceNeg, Int.reduceLT, Int.reduceLE, Int.reduceEq, Int.reduceNe, Int.reduceBEq, Int.reduceBNe, Int.reduceToNat, Int.reduceGT, Int.reduceGE, ↓reduceIte, decide_true, decide_false, eq_self, Nat.mul_one, Nat.zero_mul, Nat.one_mul, Int.le_refl, Nat.le_refl, Int.cast_ofNat_Int, Try.f113, Sx.t, Sx.cs, w1]
    refine pwpC_loopU (A := Unit) [1, 2, 4, 5, 20, 21] (fun _ => [(22, .t (.int .i64 0))]) (fun _ => []) (fun _ => 0) () (by decide) (fun _ => by rfl) ?_ fun Q1 hQ1 _ I1 hI1 => ?_
    · simp (decide := true) (maxSteps := 4000000) only [go_sem, Nat.reduceAdd, Nat.reduceSub, Nat.reduceMul, Nat.reduceDiv, Nat.reduceMod, Nat.reduceLT, Nat.reduceLeDiff, Nat.reduceEqDiff, Nat.reduceBEq, Nat.reduceBNe, Nat.reduceGT, Int.reduceAdd, Int.reduceSub, Int.reduceMul, Int.reduceNeg, Int.reduceLT, Int.reduceLE, Int.reduceEq, Int.reduceNe, Int.reduceBEq, Int.reduceBNe, Int.reduceToNat, Int.reduceGT, Int.reduceGE, ↓reduceIte, decide_true, decide_false, eq_self, Nat.mul_one, Nat.zero_mul, Nat.one_mul, Int.le_refl, Nat.le_refl, Int.cast_ofNat_Int]
    · simp (decide := true) (maxSteps := 4000000) only [go_sem, Nat.reduceAdd, Nat.reduceSub, Nat.reduceMul, Nat.reduceDiv, Nat.reduceMod, Nat.reduceLT, Nat.reduceLeDiff, Nat.reduceEqDiff, Nat.reduceBEq, Nat.reduceBNe, Nat.reduceGT, Int.reduceAdd, Int.reduceSub, Int.reduceMul, Int.reduceNeg, Int.reduceLT, Int.reduceLE, Int.reduceEq, Int.reduceNe, Int.reduceBEq, Int.reduceBNe, Int.reduceToNat, Int.reduceGT, Int.reduceGE, ↓reduceIte, decide_true, decide_false, eq_self, Nat.mul_one, Nat.zero_mul, Nat.one_mul, Int.le_refl, Nat.le_refl, Int.cast_ofNat_Int]
      refine hQ1 _ _ ?_
      simp (decide := true) (maxSteps := 4000000) only [go_sem, Nat.reduceAdd, Nat.reduceSub, Nat.reduceMul, Nat.reduceDiv, Nat.reduceMod, Nat.reduceLT, Nat.reduceLeDiff, Nat.reduceEqDiff, Nat.reduceBEq, Nat.reduceBNe, Nat.reduceGT, Int.reduceAdd, Int.reduceSub, Int.reduceMul, Int.reduceNeg, Int.reduceLT, Int.reduceLE, Int.reduceEq, Int.reduceNe, Int.reduceBEq, Int.reduceBNe, Int.reduceToNat, Int.reduceGT, Int.reduceGE, ↓reduceIte, decide_true, decide_false, eq_self, Nat.mul_one, Nat.zero_mul, Nat.one_mul, Int.le_refl, Nat.le_refl, Int.cast_ofNat_Int, e, shA, List.range_zero, List.filter_nil, List.map_nil, Ad.cs, Ad.tv, Span.t, Span.cs, rdV, rdO, Sx.cs]
      exact ⟨_, rfl, rfl⟩
  · simp (decide := true) (maxSteps := 4000000) only [go_sem, Nat.reduceAdd, Nat.reduceSub, Nat.reduceMul, Nat.reduceDiv, Nat.reduceMod, Nat.reduceLT, Nat.reduceLeDiff, Nat.reduceEqDiff, Nat.reduceBEq, Nat.reduceBNe, Nat.reduceGT, Int.reduceAdd, Int.reduceSub, Int.reduceMul, Int.reduceNeg, Int.reduceLT, Int.reduceLE, Int.reduceEq, Int.reduceNe, Int.reduceBEq, Int.reduceBNe, Int.reduceToNat, Int.reduceGT, Int.reduceGE, ↓reduceIte, decide_true, decide_false, eq_self, Nat.mul_one, Nat.zero_mul, Nat.one_mul, Int.le_refl, Nat.le_refl, Int.cast_ofNat_Int, Try.f113, Sx.t, Sx.cs, w1]
    refine pwpC_loopU (A := { k : Nat // k ≤ x.shade.length }) [1, 2, 4, 20, 21] (fun k => [(22, .t (.int .i64 k.1)), (5, .gsl 1 ((shA x set k.1).length - 1) 1 0 (shA x set k.1).length false)]) (fun k => [(1, .grow ((shA x set k.1).length - 1) (((shA x set k.1).flatMap Ad.cs).map .t) 243 1)]) (fun k => x.shade.length - k.1) ⟨0, by omega⟩ (by decide) (fun _ => by rfl) ?_ fun Q1 hQ1 ⟨k, hk⟩ I1 hI1 => ?_
    · simp (decide := true) (maxSteps := 4000000) only [go_sem, Nat.reduceAdd, Nat.reduceSub, Nat.reduceMul, Nat.reduceDiv, Nat.reduceMod, Nat.reduceLT, Nat.reduceLeDiff, Nat.reduceEqDiff, Nat.reduceBEq, Nat.reduceBNe, Nat.reduceGT, Int.reduceAdd, Int.reduceSub, Int.reduceMul, Int.reduceNeg, Int.reduceLT, Int.reduceLE, Int.reduceEq, Int.reduceNe, Int.reduceBEq, Int.reduceBNe, Int.reduceToNat, Int.reduceGT, Int.reduceGE, ↓reduceIte, decide_true, decide_false, eq_self, Nat.mul_one, Nat.zero_mul, Nat.one_mul, Int.le_refl, Nat.le_refl, Int.cast_ofNat_Int, shA, List.range_zero, List.filter_nil, Ad.cs, Ad.tv, Span.t, Span.cs]
    · by_cases hlt : (k : Int) < x.shade.length
      · obtain ⟨s, hs⟩ := get_lt hlt
        have hd := flat_at Span.cs (n := 2) (fun _ => rfl) hs
        have hc1 : IntKind.i64.wrap (k + 1) = ((k + 1 : Nat) : Int) := by rw [wrap_in (by omega) (by omega)]; omega
        have hbit := bit_shade set hset k (by omega)
        have hk0 : ¬ (k : Int) < 0 := by omega
        have hes := atS_eq hs
        have hln := shA_len x set k
        have hfl : (((shA x set k).flatMap Ad.cs).map PV.t).length = (shA x set k).length := by rw [List.length_map, flat_len Ad.cs (n := 1) (fun _ => rfl), Nat.mul_one]
        have hr : ((shA x set k).length + 1) * 16 ≤ 140737488355328 := by omega
        cases hb : set.testBit k with
        | false =>
          rw [hb] at hbit
          simp (decide := true) (maxSteps := 4000000) only [go_sem, Nat.reduceAdd, Nat.reduceSub, Nat.reduceMul, Nat.reduceDiv, Nat.reduceMod, Nat.reduceLT, Nat.reduceLeDiff, Nat.reduceEqDiff, Nat.reduceBEq, Nat.reduceBNe, Nat.reduceGT, Int.reduceAdd, Int.reduceSub, Int.reduceMul, Int.reduceNeg, Int.reduceLT, Int.reduceLE, Int.reduceEq, Int.reduceNe, Int.reduceBEq, Int.reduceBNe, Int.reduceToNat, Int.reduceGT, Int.reduceGE, ↓reduceIte, decide_true, decide_false, eq_self, Nat.mul_one, Nat.zero_mul, Nat.one_mul, Int.le_refl, Nat.le_refl, Int.cast_ofNat_Int, hlt, hd, Span.cs, hk0]
          refine condC_splitB (fun ht => (by cases hbit.symm.trans ht)) (fun _ => ?_)
          simp (decide := true) (maxSteps := 4000000) only [go_sem, Nat.reduceAdd, Nat.reduceSub, Nat.reduceMul, Nat.reduceDiv, Nat.reduceMod, Nat.reduceLT, Nat.reduceLeDiff, Nat.reduceEqDiff, Nat.reduceBEq, Nat.reduceBNe, Nat.reduceGT, Int.reduceAdd, Int.reduceSub, Int.reduceMul, Int.reduceNeg, Int.reduceLT, Int.reduceLE, Int.reduceEq, Int.reduceNe, Int.reduceBEq, Int.reduceBNe, Int.reduceToNat, Int.reduceGT, Int.reduceGE, ↓reduceIte, decide_true, decide_false, eq_self, Nat.mul_one, Nat.zero_mul, Nat.one_mul, Int.le_refl, Nat.le_refl, Int.cast_ofNat_Int]
          refine hI1 _ ⟨k + 1, by omega⟩ (by simp only; omega) ?_
          simp (decide := true) (maxSteps := 4000000) only [go_sem, Nat.reduceAdd, Nat.reduceSub, Nat.reduceMul, Nat.reduceDiv, Nat.reduceMod, Nat.reduceLT, Nat.reduceLeDiff, Nat.reduceEqDiff, Nat.reduceBEq, Nat.reduceBNe, Nat.reduceGT, Int.reduceAdd, Int.reduceSub, Int.reduceMul, Int.reduceNeg, Int.reduceLT, Int.reduceLE, Int.reduceEq, Int.reduceNe, Int.reduceBEq, Int.reduceBNe, Int.reduceToNat, Int.reduceGT, Int.reduceGE, ↓reduceIte, decide_true, decide_false, eq_self, Nat.mul_one, Nat.zero_mul, Nat.one_mul, Int.le_refl, Nat.le_refl, Int.cast_ofNat_Int, hc1, shA_f hb]
        | true =>
          rw [hb] at hbit
          simp (decide := true) (maxSteps := 4000000) only [go_sem, Nat.reduceAdd, Nat.reduceSub, Nat.reduceMul, Nat.reduceDiv, Nat.reduceMod, Nat.reduceLT, Nat.reduceLeDiff, Nat.reduceEqDiff, Nat.reduceBEq, Nat.reduceBNe, Nat.reduceGT, Int.reduceAdd, Int.reduceSub, Int.reduceMul, Int.reduceNeg, Int.reduceLT, Int.reduceLE, Int.reduceEq, Int.reduceNe, Int.reduceBEq, Int.reduceBNe, Int.reduceToNat, Int.reduceGT, Int.reduceGE, ↓reduceIte, decide_true, decide_false, eq_self, Nat.mul_one, Nat.zero_mul, Nat.one_mul, Int.le_refl, Nat.le_refl, Int.cast_ofNat_Int, hlt, hd, Span.cs, hk0]
          refine condC_splitB (fun _ => ?_) (fun ht => (by cases hbit.symm.trans ht))
          simp (decide := true) (maxSteps := 4000000) only [go_sem, Nat.reduceAdd, Nat.reduceSub, Nat.reduceMul, Nat.reduceDiv, Nat.reduceMod, Nat.reduceLT, Nat.reduceLeDiff, Nat.reduceEqDiff, Nat.reduceBEq, Nat.reduceBNe, Nat.reduceGT, Int.reduceAdd, Int.reduceSub, Int.reduceMul, Int.reduceNeg, Int.reduceLT, Int.reduceLE, Int.reduceEq, Int.reduceNe, Int.reduceBEq, Int.reduceBNe, Int.reduceToNat, Int.reduceGT, Int.reduceGE, ↓reduceIte, decide_true, decide_false, eq_self, Nat.mul_one, Nat.zero_mul, Nat.one_mul, Int.le_refl, Nat.le_refl, Int.cast_ofNat_Int, hfl, hr]
          refine hI1 _ ⟨k + 1, by omega⟩ (by simp only; omega) ?_
          have e1 : (shA x set (k + 1)).length = (shA x set k).length + 1 := by rw [shA_t hb]; simp
          have e2 : (shA x set k).length + 1 - 1 = (shA x set k).length - 1 + 1 := by omega
          have e3 : ((shA x set k).flatMap Ad.cs).map PV.t ++ [.t (.ifc 226 (.agg [.int .i64 s.lo, .int .i64 s.hi]))] = ((shA x set (k + 1)).flatMap Ad.cs).map PV.t := by
            rw [shA_t hb, List.flatMap_append, List.map_append, hes]; rfl
          simp (decide := true) (maxSteps := 4000000) only [go_sem, Nat.reduceAdd, Nat.reduceSub, Nat.reduceMul, Nat.reduceDiv, Nat.reduceMod, Nat.reduceLT, Nat.reduceLeDiff, Nat.reduceEqDiff, Nat.reduceBEq, Nat.reduceBNe, Nat.reduceGT, Int.reduceAdd, Int.reduceSub, Int.reduceMul, Int.reduceNeg, Int.reduceLT, Int.reduceLE, Int.reduceEq, Int.reduceNe, Int.reduceBEq, Int.reduceBNe, Int.reduceToNat, Int.reduceGT, Int.reduceGE, ↓reduceIte, decide_true, decide_false, eq_self, Nat.mul_one, Nat.zero_mul, Nat.one_mul, Int.le_refl, Nat.le_refl, Int.cast_ofNat_Int, hc1, e1, e2, e3]
      · have hke : k = x.shade.length := by omega
        subst hke
        simp (decide := true) (maxSteps := 4000000) only [go_sem, Nat.reduceAdd, Nat.reduceSub, Nat.reduceMul, Nat.reduceDiv, Nat.reduceMod, Nat.reduceLT, Nat.reduceLeDiff, Nat.reduceEqDiff, Nat.reduceBEq, Nat.reduceBNe, Nat.reduceGT, Int.reduceAdd, Int.reduceSub, Int.reduceMul, Int.reduceNeg, Int.reduceLT, Int.reduceLE, Int.reduceEq, Int.reduceNe, Int.reduceBEq, Int.reduceBNe, Int.reduceToNat, Int.reduceGT, Int.reduceGE, ↓reduceIte, decide_true, decide_false, eq_self, Nat.mul_one, Nat.zero_mul, Nat.one_mul, Int.le_refl, Nat.le_refl, Int.cast_ofNat_Int, hlt]
        refine hQ1 _ _ ?_
        simp (decide := true) (maxSteps := 4000000) only [go_sem, Nat.reduceAdd, Nat.reduceSub, Nat.reduceMul, Nat.reduceDiv, Nat.reduceMod, Nat.reduceLT, Nat.reduceLeDiff, Nat.reduceEqDiff, Nat.reduceBEq, Nat.reduceBNe, Nat.reduceGT, Int.reduceAdd, Int.reduceSub, Int.reduceMul, Int.reduceNeg, Int.reduceLT, Int.reduceLE, Int.reduceEq, Int.reduceNe, Int.reduceBEq, Int.reduceBNe, Int.reduceToNat, Int.reduceGT, Int.reduceGE, ↓reduceIte, decide_true, decide_false, eq_self, Nat.mul_one, Nat.zero_mul, Nat.one_mul, Int.le_refl, Nat.le_refl, Int.cast_ofNat_Int, rdV, rdO, Sx.cs]
        exact ⟨_, rfl, rfl⟩
noncomputable def sxReading : List PV → List PO → Option (PV × List PO)
  | [.t (.agg [.int .i64 a0, sT, .int .i64 a1, .int .i64 a2, .int .i64 a3, sS]), .t (.int .i64 set)], [] => match rowL unS sT, rowL unS sS with
    | some tab, some shade => if sxOk ⟨a0, tab, ⟨a1, a2⟩, a3, shade⟩ = true ∧ 0 ≤ set ∧ set < 64 then
        some (rdV (shA ⟨a0, tab, ⟨a1, a2⟩, a3, shade⟩ set.toNat shade.length), rdO ⟨a0, tab, ⟨a1, a2⟩, a3, shade⟩ sT sS (shA ⟨a0, tab, ⟨a1, a2⟩, a3, shade⟩ set.toNat shade.length)) else none
    | _, _ => none
  | _, _ => none
theorem sxReading_ok : ∀ xs hl r hl', sxReading xs hl = some (r, hl') → HCalls Try.prog 113 xs (getL hl) r (getL hl') := by
  intro xs hl r hl' h
  unfold sxReading at h
  split at h
  · rename_i a0 sT a1 a2 a3 sS set
    split at h
    · rename_i tab shade hT hS
      have hS := rowL_some (un := unS) unS_nil (@unS_some) hS
      split at h
      · rename_i hc
        simp only [Option.some.injEq, Prod.mk.injEq] at h
        obtain ⟨rfl, rfl⟩ := h
        have := sReading_c ⟨a0, tab, ⟨a1, a2⟩, a3, shade⟩ (sT := sT) hS hc.1 set.toNat (by omega)
        rw [Int.toNat_of_nonneg hc.2.1] at this
        exact this
      · cases h
    · cases h
  · cases h
attribute [go_sem] sxReading
noncomputable def spSj : Pm.Spec := Spec.oneH 113 sxReading { (noSpec.one 114 sxAdded) with mu := fun t => t == 224, fr := fun f => f == 114 }
@[go_sem] theorem spSj_p (f : FuncId) (xs : List TV) : spSj.p f xs = Pm.Spec.p (Spec.oneH 113 sxReading { (noSpec.one 114 sxAdded) with mu := fun t => t == 224, fr := fun f => f == 114 }) f xs := rfl
@[go_sem] theorem spSj_h (f : FuncId) (ps : List PV) (hl : List PO) : spSj.h f ps hl = Pm.Spec.h (Spec.oneH 113 sxReading { (noSpec.one 114 sxAdded) with mu := fun t => t == 224, fr := fun f => f == 114 }) f ps hl := rfl
@[go_sem] theorem spSj_y (Y : Pm.YS) (f : FuncId) (ps : List PV) (hl : List PO) : spSj.y Y f ps hl = Pm.Spec.y (Spec.oneH 113 sxReading { (noSpec.one 114 sxAdded) with mu := fun t => t == 224, fr := fun f => f == 114 }) Y f ps hl := rfl
@[go_sem] theorem spSj_fz (f : FuncId) : spSj.fz f = Pm.Spec.fz (Spec.oneH 113 sxReading { (noSpec.one 114 sxAdded) with mu := fun t => t == 224, fr := fun f => f == 114 }) f := rfl
@[go_sem] theorem spSj_fr (f : FuncId) : spSj.fr f = Pm.Spec.fr (Spec.oneH 113 sxReading { (noSpec.one 114 sxAdded) with mu := fun t => t == 224, fr := fun f => f == 114 }) f := rfl
@[go_sem] theorem spSj_yf (f : FuncId) : spSj.yf f = Pm.Spec.yf (Spec.oneH 113 sxReading { (noSpec.one 114 sxAdded) with mu := fun t => t == 224, fr := fun f => f == 114 }) f := rfl
@[go_sem] theorem spSj_mu (t : TypeId) : spSj.mu t = Pm.Spec.mu (Spec.oneH 113 sxReading { (noSpec.one 114 sxAdded) with mu := fun t => t == 224, fr := fun f => f == 114 }) t := rfl
@[go_sem] theorem spSj_nf (t : TypeId) : spSj.nf t = Pm.Spec.nf (Spec.oneH 113 sxReading { (noSpec.one 114 sxAdded) with mu := fun t => t == 224, fr := fun f => f == 114 }) t := rfl
theorem spSj_ok : SpecOk Try.prog spSj := Spec.oneH_ok sxReading_ok ⟨(Spec.one_ok sxAdded_ok noSpec_ok).1, (Spec.one_ok sxAdded_ok noSpec_ok).2⟩
theorem sTruth_c (x : Sx) {sT sS : TV} (hT : IsRow Span.cs sT x.tab) (hS : IsRow Span.cs sS x.shade) (hv : sxOk x = true) (a s : Int) (hr : isRd x a s = true) : PCalls Try.prog 74 [x.t sT sS, .agg [.int .i64 a, .int .i64 s]] (readS x a s.toNat).t := by
  have h := sxOk_iff.1 hv
  obtain ⟨hr1, hr2⟩ := isRd_iff.1 hr
  have hp := pow_len h.sh
  have hs64 : 0 ≤ s ∧ s < 64 := by omega
  have rS := rowS_is hS
  unfold rowL at rS
  simp only [unS_nil] at rS
  obtain ⟨f, rfl⟩ := good_T h hT
  refine pcalls_by Try.mixes spSj_ok (fn := Try.f74) Try.func74 rfl (by kernel_rfl) (by show 2 ≤ _; decide) ?_
  have e0 : Sx.mk x.step x.tab ⟨x.idx.lo, x.idx.hi⟩ x.wrong x.shade = x := rfl
  have hln := shA_len x s.toNat x.shade.length
  obtain ⟨L, hL⟩ : ∃ L, shA x s.toNat x.shade.length = L := ⟨_, rfl⟩
  rw [hL] at hln
  have h6 := h.sh
  have hfl : ((L.flatMap Ad.cs).map PV.t).length = L.length := by rw [List.length_map, flat_len Ad.cs (n := 1) (fun _ => rfl), Nat.mul_one]
  have hm : (L.length + 3) * 16 ≤ 140737488355328 := by omega
  obtain ⟨L', hL'⟩ : ∃ L', L ++ [.fix x.idx, .tab x.step x.tab f, .fix ⟨a, a⟩] = L' := ⟨_, rfl⟩
  have hll : L.length + 3 = L'.length := by rw [← hL']; simp
  have hcat : List.map PV.t (L.flatMap Ad.cs) ++ [.t (.ifc 226 (.agg [.int .i64 x.idx.lo, .int .i64 x.idx.hi])), .t (.ifc 228 (.agg [.int .i64 x.step, .sl (x.tab.flatMap Span.cs) x.tab.length f])), .t (.ifc 226 (.agg [.int .i64 a, .int .i64 a]))] = List.map PV.t (L'.flatMap Ad.cs) := by
    rw [← hL', List.flatMap_append, List.map_append]; rfl
  have htk : List.take L'.length (L'.flatMap Ad.cs) = L'.flatMap Ad.cs := List.take_of_length_le (by rw [flat_len Ad.cs (n := 1) (fun _ => rfl)]; omega)
  have hlen : (List.map PV.t (L'.flatMap Ad.cs)).length = L'.length := by rw [List.length_map, flat_len Ad.cs (n := 1) (fun _ => rfl), Nat.mul_one]
  have hlen2 : (L'.flatMap Ad.cs).length = L'.length := by rw [flat_len Ad.cs (n := 1) (fun _ => rfl), Nat.mul_one]
  have h16 : L'.length ≤ 16 := by omega
  have hlb := last_b h
  have hok : L'.all (Ad.ok a) = true := by
    have h1 := shA_ok h s.toNat a x.shade.length (Nat.le_refl _)
    rw [hL] at h1
    have h2 : bdB x.idx = true := bdB_iff.2 (by have := h.idx; omega)
    have h3 : bdB ⟨a, a⟩ = true := bdB_iff.2 (by simp only; omega)
    have h4 : inB x.step 1 72000 = true := inB_iff.2 h.st
    have h5 : (decide (1 ≤ x.tab.length ∧ x.tab.length ≤ 9000000000000)) = true := decide_eq_true (by have := h.len; omega)
    have h6 : x.tab.all (spannedB · (-600) 600) = true := List.all_eq_true.2 fun s hs => spannedB_iff.2 (h.tab s hs)
    have h7 : decide (0 ≤ a ∧ a ≤ 504000) = true := decide_eq_true (by omega)
    have h8 : decide (a ≤ x.step * (x.tab.length - 1)) = true := decide_eq_true hr1.2
    rw [← hL', List.all_append, h1]
    simp [Ad.ok, h2, h3, h4, h5, h6, h7, h8]
  have hsum : sumL (L'.map (·.at' a)) = readS x a s.toNat := by
    have h1 := shA_sum x s.toNat a x.shade.length
    rw [hL] at h1
    rw [← hL', List.map_append]
    unfold sumL at h1 ⊢
    rw [List.foldl_append, h1]
    simp only [List.map_cons, List.map_nil, List.foldl_cons, List.foldl_nil, Ad.at', addS, readS, shs]
    congr 1 <;> omega
  rw [hll] at hm
  simp (decide := true) (maxSteps := 4000000) only [go_sem, Nat.reduceAdd, Nat.reduceSub, Nat.reduceMul, Nat.reduceDiv, Nat.reduceMod, Nat.reduceLT, Nat.reduceLeDiff, Nat.reduceEqDiff, Nat.reduceBEq, Nat.reduceBNe, Nat.reduceGT, Int.reduceAdd, Int.reduceSub, Int.reduceMul, Int.reduceNeg, Int.reduceLT, Int.reduceLE, Int.reduceEq, Int.reduceNe, Int.reduceBEq, Int.reduceBNe, Int.reduceToNat, Int.reduceGT, Int.reduceGE, ↓reduceIte, decide_true, decide_false, eq_self, Nat.mul_one, Nat.zero_mul, Nat.one_mul, Int.le_refl, Nat.le_refl, Int.cast_ofNat_Int, Try.f74, Sx.t, Sx.cs, unS_eq, rS, hv, hs64, e0, hL, rdV, rdO, hfl, hm, hcat, hll, freezeW, freezeO, closedG, seenF, wr, upo, List.flatMap_append, htk, hlen, hlen2, h16, hok, hsum, List.drop_zero, Nat.mul_one, Nat.zero_add, Nat.zero_mul, Span.t, Span.cs]
noncomputable def sxTruth : List TV → Option TV
  | [.agg [.int .i64 a0, sT, .int .i64 a1, .int .i64 a2, .int .i64 a3, sS], .agg [.int .i64 p, .int .i64 q]] => match rowL unS sT, rowL unS sS with
    | some tab, some shade => if sxOk (⟨a0, tab, ⟨a1, a2⟩, a3, shade⟩ : Sx) = true ∧ isRd (⟨a0, tab, ⟨a1, a2⟩, a3, shade⟩ : Sx) p q = true then some ((readS (⟨a0, tab, ⟨a1, a2⟩, a3, shade⟩ : Sx) p q.toNat).t) else none
    | _, _ => none
  | _ => none
theorem sxTruth_ok : ∀ xs r, sxTruth xs = some r → PCalls Try.prog 74 xs r := by
  intro xs r h
  unfold sxTruth at h
  split at h
  · split at h
    · rename_i tab shade hT hS
      have hT := rowL_some (un := unS) unS_nil (@unS_some) hT
      have hS := rowL_some (un := unS) unS_nil (@unS_some) hS
      split at h
      · rename_i hc; cases h; exact sTruth_c ⟨_, tab, ⟨_, _⟩, _, shade⟩ hT hS hc.1 _ _ hc.2
      · cases h
    · cases h
  · cases h
attribute [go_sem] sxTruth
noncomputable def spSk : Pm.Spec := (((spSa.one 43 sxCheck).one 73 sxIsReading).one 74 sxTruth)
@[go_sem] theorem spSk_p (f : FuncId) (xs : List TV) : spSk.p f xs = Pm.Spec.p ((((spSa.one 43 sxCheck).one 73 sxIsReading).one 74 sxTruth)) f xs := rfl
@[go_sem] theorem spSk_h (f : FuncId) (ps : List PV) (hl : List PO) : spSk.h f ps hl = Pm.Spec.h ((((spSa.one 43 sxCheck).one 73 sxIsReading).one 74 sxTruth)) f ps hl := rfl
@[go_sem] theorem spSk_y (Y : Pm.YS) (f : FuncId) (ps : List PV) (hl : List PO) : spSk.y Y f ps hl = Pm.Spec.y ((((spSa.one 43 sxCheck).one 73 sxIsReading).one 74 sxTruth)) Y f ps hl := rfl
@[go_sem] theorem spSk_fz (f : FuncId) : spSk.fz f = Pm.Spec.fz ((((spSa.one 43 sxCheck).one 73 sxIsReading).one 74 sxTruth)) f := rfl
@[go_sem] theorem spSk_fr (f : FuncId) : spSk.fr f = Pm.Spec.fr ((((spSa.one 43 sxCheck).one 73 sxIsReading).one 74 sxTruth)) f := rfl
@[go_sem] theorem spSk_yf (f : FuncId) : spSk.yf f = Pm.Spec.yf ((((spSa.one 43 sxCheck).one 73 sxIsReading).one 74 sxTruth)) f := rfl
@[go_sem] theorem spSk_mu (t : TypeId) : spSk.mu t = Pm.Spec.mu ((((spSa.one 43 sxCheck).one 73 sxIsReading).one 74 sxTruth)) t := rfl
@[go_sem] theorem spSk_nf (t : TypeId) : spSk.nf t = Pm.Spec.nf ((((spSa.one 43 sxCheck).one 73 sxIsReading).one 74 sxTruth)) t := rfl
theorem spSk_ok : SpecOk Try.prog spSk := Spec.one_ok sxTruth_ok (Spec.one_ok sxIsReading_ok (Spec.one_ok sxCheck_ok spSa_ok))
theorem sRead_c (x : Sx) {sT sS : TV} (hT : IsRow Span.cs sT x.tab) (hS : IsRow Span.cs sS x.shade) (lT : x.tab.length ≤ 9000000000000) (lS : x.shade.length ≤ 9000000000000) (a s : Int) : PCalls Try.prog 34 [x.t sT sS, .agg [.int .i64 a, .int .i64 s]] (.tup [(readP x a s).1.t, .int .i64 (readP x a s).2]) := by
  have rT := rowS_is hT
  have rS := rowS_is hS
  unfold rowL at rT rS
  simp only [unS_nil] at rT rS
  have e0 : Sx.mk x.step x.tab ⟨x.idx.lo, x.idx.hi⟩ x.wrong x.shade = x := rfl
  refine pcalls_by Try.mixes spSk_ok (fn := Try.f34) Try.func34 rfl (by kernel_rfl) (by show 2 ≤ _; decide) ?_
  unfold readP
  cases hv : sxOk x with
  | false =>
    have b : ((50 : Int) != 0) = true := rfl
    simp (decide := true) (maxSteps := 4000000) only [go_sem, Nat.reduceAdd, Nat.reduceSub, Nat.reduceMul, Nat.reduceDiv, Nat.reduceMod, Nat.reduceLT, Nat.reduceLeDiff, Nat.reduceEqDiff, Nat.reduceBEq, Nat.reduceBNe, Nat.reduceGT, Int.reduceAdd, Int.reduceSub, Int.reduceMul, Int.reduceNeg, Int.reduceLT, Int.reduceLE, Int.reduceEq, Int.reduceNe, Int.reduceBEq, Int.reduceBNe, Int.reduceToNat, Int.reduceGT, Int.reduceGE, ↓reduceIte, decide_true, decide_false, eq_self, Nat.mul_one, Nat.zero_mul, Nat.one_mul, Int.le_refl, Nat.le_refl, Int.cast_ofNat_Int, Try.f34, Sx.t, Sx.cs, rT, rS, lT, lS, e0, hv, b, Span.t, Span.cs]
  | true =>
    have b : ((0 : Int) != 0) = false := rfl
    cases hr : isRd x a s <;> simp (decide := true) (maxSteps := 4000000) only [go_sem, Nat.reduceAdd, Nat.reduceSub, Nat.reduceMul, Nat.reduceDiv, Nat.reduceMod, Nat.reduceLT, Nat.reduceLeDiff, Nat.reduceEqDiff, Nat.reduceBEq, Nat.reduceBNe, Nat.reduceGT, Int.reduceAdd, Int.reduceSub, Int.reduceMul, Int.reduceNeg, Int.reduceLT, Int.reduceLE, Int.reduceEq, Int.reduceNe, Int.reduceBEq, Int.reduceBNe, Int.reduceToNat, Int.reduceGT, Int.reduceGE, ↓reduceIte, decide_true, decide_false, eq_self, Nat.mul_one, Nat.zero_mul, Nat.one_mul, Int.le_refl, Nat.le_refl, Int.cast_ofNat_Int, Try.f34, Sx.t, Sx.cs, rT, rS, lT, lS, e0, hv, hr, b, Span.t, Span.cs]
noncomputable def sxRead : List TV → Option TV
  | [.agg [.int .i64 a0, sT, .int .i64 a1, .int .i64 a2, .int .i64 a3, sS], .agg [.int .i64 p, .int .i64 q]] => match rowL unS sT, rowL unS sS with
    | some tab, some shade => if tab.length ≤ 9000000000000 ∧ shade.length ≤ 9000000000000 then some (.tup [(readP (⟨a0, tab, ⟨a1, a2⟩, a3, shade⟩ : Sx) p q).1.t, .int .i64 (readP (⟨a0, tab, ⟨a1, a2⟩, a3, shade⟩ : Sx) p q).2]) else none
    | _, _ => none
  | _ => none
theorem sxRead_ok : ∀ xs r, sxRead xs = some r → PCalls Try.prog 34 xs r := by
  intro xs r h
  unfold sxRead at h
  split at h
  · split at h
    · rename_i tab shade hT hS
      have hT := rowL_some (un := unS) unS_nil (@unS_some) hT
      have hS := rowL_some (un := unS) unS_nil (@unS_some) hS
      split at h
      · rename_i hc; cases h; exact sRead_c ⟨_, tab, ⟨_, _⟩, _, shade⟩ hT hS hc.1 hc.2 _ _
      · cases h
    · cases h
  · cases h
attribute [go_sem] sxRead
end Go.Proofs.Ytadkjjnnnkfalaa.Sx

/- Part Sf. -/
namespace Go.Proofs.Ytadkjjnnnkfalaa.Sx
end Go.Proofs.Ytadkjjnnnkfalaa.Sx
namespace Go.Os
open Go Go.Pm Go.Oc Go.Oh
def wid (s : Span) : Int := s.hi - s.lo
def fltTo (x : Sx) (k : Nat) : Int := (List.range k).foldl (fun m i => max m (wid (atS x.tab i))) 0
theorem fltTo_succ (x : Sx) (k : Nat) : fltTo x (k + 1) = max (fltTo x k) (wid (atS x.tab k)) := by unfold fltTo; rw [List.range_succ, List.foldl_append]; rfl
/-- All shades. -/
def allSh (x : Sx) : Nat := 2 ^ x.shade.length - 1
def rest (x : Sx) : Int := wid (addS (shs x (allSh x)) x.idx)
def fault (x : Sx) : Int := fltTo x x.tab.length + rest x
def classOf (n : Int) : Int := if n ≤ 40 then 1 else if n ≤ 200 then 2 else 3
def classP (x : Sx) : Int × Int × Int := if sxOk x then (classOf (fault x), fault x, 0) else (0, 0, 50)
theorem fltTo_b {x : Sx} (h : GoodS x) : ∀ k, k ≤ x.tab.length → 0 ≤ fltTo x k ∧ fltTo x k ≤ 1200
  | 0, _ => by simp [fltTo]
  | k + 1, hk => by
    have ih := fltTo_b h k (by omega)
    have := h.tab _ (atS_mem (show k < x.tab.length by omega))
    rw [fltTo_succ]; unfold wid; omega
theorem rest_b {x : Sx} (h : GoodS x) : 0 ≤ rest x ∧ rest x ≤ 5160 := by
  have := shs_b h (allSh x)
  have := h.idx
  unfold rest wid addS; simp only; omega
theorem corr_at {x : Sx} (h : GoodS x) {k : Nat} (hk : k < x.tab.length) : corr x.step x.tab ((k : Int) * x.step) = atS x.tab k := by
  have hs := h.st
  unfold corr
  have e1 : (k : Int) * x.step / x.step = k := Int.mul_ediv_cancel _ (by omega)
  have e2 : (k : Int) * x.step % x.step = 0 := Int.mul_emod_left _ _
  simp only [e1, e2, if_true, Int.toNat_natCast]
theorem at_b {x : Sx} (h : GoodS x) {k : Nat} (hk : k < x.tab.length) : 0 ≤ (k : Int) * x.step ∧ (k : Int) * x.step ≤ last x ∧ (k : Int) * x.step ≤ 504000 := by
  have hs := h.st
  have h1 := Int.mul_le_mul_of_nonneg_right (show (k : Int) ≤ (x.tab.length : Int) - 1 by omega) (show 0 ≤ x.step by omega)
  have h2 := Int.mul_nonneg (show 0 ≤ (k : Int) by omega) (show 0 ≤ x.step by omega)
  have h3 := last_b h
  have h4 : ((x.tab.length : Int) - 1) * x.step = last x := Int.mul_comm _ _
  omega
end Go.Os
namespace Go.Proofs.Ytadkjjnnnkfalaa.Sx
open Go.RowKit Go.Pm Go.Oc Go.Oh Go.Os
set_option maxRecDepth 100000
set_option linter.unusedVariables false
set_option maxHeartbeats 4000000

end Go.Proofs.Ytadkjjnnnkfalaa.Sx

/- Part Sg. -/
namespace Go.Proofs.Ytadkjjnnnkfalaa.Sx
end Go.Proofs.Ytadkjjnnnkfalaa.Sx
namespace Go.Os
open Go Go.Pm Go.Oc Go.Oh
structure Sun where
  on : Int
  off : Int
def Sun.cs (p : Sun) : List TV := [.int .i64 p.on, .int .i64 p.off]
theorem Sun.cs_inj (x y : Sun) (h : x.cs = y.cs) : x = y := by
  obtain ⟨a, b⟩ := x; obtain ⟨c, d⟩ := y
  simp only [Sun.cs, List.cons.injEq, TV.int.injEq, true_and, and_true] at h
  rw [h.1, h.2]
noncomputable def unSun (cs : List TV) : Option (List Sun) := unflat Sun.cs cs
theorem unSun_eq (l : List Sun) : unSun (l.flatMap Sun.cs) = some l := unflat_eq (n := 2) (fun _ => rfl) (by decide) Sun.cs_inj l
theorem unSun_nil : unSun [] = some [] := unSun_eq []
theorem unSun_some {cs : List TV} {l : List Sun} (h : unSun cs = some l) : cs = l.flatMap Sun.cs := unflat_some h
theorem rowSun_is {s : TV} {l : List Sun} (h : IsRow Sun.cs s l) : rowL unSun s = some l := by
  rcases h with ⟨rfl, rfl⟩ | ⟨f, rfl⟩
  · exact unSun_nil
  · simp [rowL, unSun_eq]
attribute [go_sem] unSun_eq unSun_nil
def onS (w : Int) (p : Sun) (i : Int) (d : Span) : Span := ⟨max d.lo (p.on + i - w), min d.hi (p.on + i + w)⟩
def offS (w : Int) (p : Sun) (i : Int) (d : Span) : Span := ⟨max d.lo (p.off - i - w), min d.hi (p.off - i + w)⟩
/-- What is left of the diameters with an index error, by so many pairs. -/
def narS (w : Int) (l : List Sun) (i : Int) (d : Span) : Span := l.foldl (fun d p => offS w p i (onS w p i d)) d
theorem narS_take {w i : Int} {l : List Sun} {d : Span} {k : Nat} {p : Sun} (h : l[k]? = some p) : narS w (l.take (k + 1)) i d = offS w p i (onS w p i (narS w (l.take k) i d)) := by
  unfold narS; rw [take_snoc h, List.foldl_append]; rfl
structure IR where
  index : Span
  disc : Span
  first : Bool
def idxStep (w : Int) (l : List Sun) (D : Span) (a : IR) (i : Int) : IR :=
  if (narS w l i D).lo ≤ (narS w l i D).hi then ⟨widerS a.index i a.first, widerS (widerS a.disc (narS w l i D).lo a.first) (narS w l i D).hi false, false⟩ else a
def idxTo (x : Sx) (l : List Sun) (D : Span) (k : Nat) : IR := (List.range k).foldl (fun a (i : Nat) => idxStep x.wrong l D a (x.idx.lo + (i : Int))) ⟨⟨0, 0⟩, ⟨0, 0⟩, true⟩
theorem idxTo_succ (x : Sx) (l : List Sun) (D : Span) (k : Nat) : idxTo x l D (k + 1) = idxStep x.wrong l D (idxTo x l D k) (x.idx.lo + (k : Int)) := by unfold idxTo; rw [List.range_succ, List.foldl_append]; rfl
def idxN (x : Sx) : Nat := (x.idx.hi - x.idx.lo + 1).toNat
def idxV (x : Sx) : List (List TV) := (List.range (idxN x)).map fun (i : Nat) => [.int .i64 (x.idx.lo + (i : Int))]
theorem idxV_at {x : Sx} {k : Nat} (h : k < idxN x) : (idxV x)[k]? = some [.int .i64 (x.idx.lo + (k : Int))] := by
  unfold idxV; rw [List.getElem?_map, List.getElem?_range h]; rfl
def sunB (p : Sun) : Bool := inB p.on 0 6000 && inB p.off 0 6000
def sunsOk (D : Span) (l : List Sun) : Bool := spannedB D 1 4000 && (inB l.length 1 6 && l.all sunB)
/-- What Index returns. -/
def indexP (x : Sx) (D : Span) (l : List Sun) : Span × Span × Int :=
  if sxOk x then (if sunsOk D l then (if (idxTo x l D (idxN x)).first then (⟨0, 0⟩, ⟨0, 0⟩, 54) else ((idxTo x l D (idxN x)).index, (idxTo x l D (idxN x)).disc, 0)) else (⟨0, 0⟩, ⟨0, 0⟩, 52)) else (⟨0, 0⟩, ⟨0, 0⟩, 50)
theorem idx_first {x : Sx} {l : List Sun} {D : Span} : ∀ k, (idxTo x l D k).first = true → (idxTo x l D k).index = ⟨0, 0⟩ ∧ (idxTo x l D k).disc = ⟨0, 0⟩
  | 0, _ => ⟨rfl, rfl⟩
  | k + 1, h => by
    rw [idxTo_succ] at h ⊢
    unfold idxStep at h ⊢
    split at h
    · cases h
    · rename_i hc; rw [if_neg hc]; exact idx_first k h
end Go.Os
namespace Go.Proofs.Ytadkjjnnnkfalaa.Sx
open Go.RowKit Go.Pm Go.Oc Go.Oh Go.Os
set_option maxRecDepth 100000
set_option linter.unusedVariables false
set_option maxHeartbeats 4000000

theorem sBoth_c (a b : Span) : PCalls Try.prog 121 [a.t, b.t] (Span.mk (max a.lo b.lo) (min a.hi b.hi)).t := by
  refine pcalls_by Try.mixes noSpec_ok (fn := Try.f121) Try.func121 rfl (by kernel_rfl) (by show 2 ≤ _; decide) ?_
  simp (decide := true) (maxSteps := 4000000) only [go_sem, Nat.reduceAdd, Nat.reduceSub, Nat.reduceMul, Nat.reduceDiv, Nat.reduceMod, Nat.reduceLT, Nat.reduceLeDiff, Nat.reduceEqDiff, Nat.reduceBEq, Nat.reduceBNe, Nat.reduceGT, Int.reduceAdd, Int.reduceSub, Int.reduceMul, Int.reduceNeg, Int.reduceLT, Int.reduceLE, Int.reduceEq, Int.reduceNe, Int.reduceBEq, Int.reduceBNe, Int.reduceToNat, Int.reduceGT, Int.reduceGE, ↓reduceIte, decide_true, decide_false, eq_self, Nat.mul_one, Nat.zero_mul, Nat.one_mul, Int.le_refl, Nat.le_refl, Int.cast_ofNat_Int, Try.f121, Span.t, Span.cs]
noncomputable def sxBoth : List TV → Option TV
  | [.agg [.int .i64 a, .int .i64 b], .agg [.int .i64 c, .int .i64 d]] => some (.agg [.int .i64 (max a c), .int .i64 (min b d)])
  | _ => none
theorem sxBoth_ok : ∀ xs r, sxBoth xs = some r → PCalls Try.prog 121 xs r := by
  intro xs r h
  unfold sxBoth at h
  split at h
  · cases h; exact sBoth_c ⟨_, _⟩ ⟨_, _⟩
  · cases h
attribute [go_sem] sxBoth
theorem sWider_c (s : Span) (n : Int) (b : Bool) : PCalls Try.prog 90 [s.t, .int .i64 n, .bool b] (widerS s n b).t := by
  refine pcalls_by Try.mixes noSpec_ok (fn := Try.f90) Try.func90 rfl (by kernel_rfl) (by show 3 ≤ _; decide) ?_
  cases b <;> simp (decide := true) (maxSteps := 4000000) only [go_sem, Nat.reduceAdd, Nat.reduceSub, Nat.reduceMul, Nat.reduceDiv, Nat.reduceMod, Nat.reduceLT, Nat.reduceLeDiff, Nat.reduceEqDiff, Nat.reduceBEq, Nat.reduceBNe, Nat.reduceGT, Int.reduceAdd, Int.reduceSub, Int.reduceMul, Int.reduceNeg, Int.reduceLT, Int.reduceLE, Int.reduceEq, Int.reduceNe, Int.reduceBEq, Int.reduceBNe, Int.reduceToNat, Int.reduceGT, Int.reduceGE, ↓reduceIte, decide_true, decide_false, eq_self, Nat.mul_one, Nat.zero_mul, Nat.one_mul, Int.le_refl, Nat.le_refl, Int.cast_ofNat_Int, Try.f90, Span.t, Span.cs, widerS]
noncomputable def sxWider : List TV → Option TV
  | [.agg [.int .i64 a, .int .i64 b], .int .i64 n, .bool c] => some ((widerS ⟨a, b⟩ n c).t)
  | _ => none
theorem sxWider_ok : ∀ xs r, sxWider xs = some r → PCalls Try.prog 90 xs r := by
  intro xs r h
  unfold sxWider at h
  split at h
  · cases h; exact sWider_c ⟨_, _⟩ _ _
  · cases h
attribute [go_sem] sxWider
noncomputable def spGa : Pm.Spec := (noSpec.one 121 sxBoth).one 90 sxWider
@[go_sem] theorem spGa_p (f : FuncId) (xs : List TV) : spGa.p f xs = Pm.Spec.p ((noSpec.one 121 sxBoth).one 90 sxWider) f xs := rfl
@[go_sem] theorem spGa_h (f : FuncId) (ps : List PV) (hl : List PO) : spGa.h f ps hl = Pm.Spec.h ((noSpec.one 121 sxBoth).one 90 sxWider) f ps hl := rfl
@[go_sem] theorem spGa_y (Y : Pm.YS) (f : FuncId) (ps : List PV) (hl : List PO) : spGa.y Y f ps hl = Pm.Spec.y ((noSpec.one 121 sxBoth).one 90 sxWider) Y f ps hl := rfl
@[go_sem] theorem spGa_fz (f : FuncId) : spGa.fz f = Pm.Spec.fz ((noSpec.one 121 sxBoth).one 90 sxWider) f := rfl
@[go_sem] theorem spGa_fr (f : FuncId) : spGa.fr f = Pm.Spec.fr ((noSpec.one 121 sxBoth).one 90 sxWider) f := rfl
@[go_sem] theorem spGa_yf (f : FuncId) : spGa.yf f = Pm.Spec.yf ((noSpec.one 121 sxBoth).one 90 sxWider) f := rfl
@[go_sem] theorem spGa_mu (t : TypeId) : spGa.mu t = Pm.Spec.mu ((noSpec.one 121 sxBoth).one 90 sxWider) t := rfl
@[go_sem] theorem spGa_nf (t : TypeId) : spGa.nf t = Pm.Spec.nf ((noSpec.one 121 sxBoth).one 90 sxWider) t := rfl
theorem spGa_ok : SpecOk Try.prog spGa := Spec.one_ok sxWider_ok (Spec.one_ok sxBoth_ok noSpec_ok)
noncomputable def spGf : Pm.Spec := { noSpec with fz := fun _ => true }
@[go_sem] theorem spGf_p (f : FuncId) (xs : List TV) : spGf.p f xs = Pm.Spec.p ({ noSpec with fz := fun _ => true }) f xs := rfl
@[go_sem] theorem spGf_h (f : FuncId) (ps : List PV) (hl : List PO) : spGf.h f ps hl = Pm.Spec.h ({ noSpec with fz := fun _ => true }) f ps hl := rfl
@[go_sem] theorem spGf_y (Y : Pm.YS) (f : FuncId) (ps : List PV) (hl : List PO) : spGf.y Y f ps hl = Pm.Spec.y ({ noSpec with fz := fun _ => true }) Y f ps hl := rfl
@[go_sem] theorem spGf_fz (f : FuncId) : spGf.fz f = Pm.Spec.fz ({ noSpec with fz := fun _ => true }) f := rfl
@[go_sem] theorem spGf_fr (f : FuncId) : spGf.fr f = Pm.Spec.fr ({ noSpec with fz := fun _ => true }) f := rfl
@[go_sem] theorem spGf_yf (f : FuncId) : spGf.yf f = Pm.Spec.yf ({ noSpec with fz := fun _ => true }) f := rfl
@[go_sem] theorem spGf_mu (t : TypeId) : spGf.mu t = Pm.Spec.mu ({ noSpec with fz := fun _ => true }) t := rfl
@[go_sem] theorem spGf_nf (t : TypeId) : spGf.nf t = Pm.Spec.nf ({ noSpec with fz := fun _ => true }) t := rfl
theorem spGf_ok : SpecOk Try.prog spGf := ⟨noSpec_ok.1, noSpec_ok.2⟩
theorem sIndices_c (x : Sx) (sT sS : TV) (hT : ∃ cs n f, sT = .sl cs n f) : PCalls Try.prog 120 [x.t sT sS] (.fn 129 [] [.cptr (x.cs sT sS)]) := by
  refine pcalls_by Try.mixes spGf_ok (fn := Try.f120) Try.func120 rfl (by kernel_rfl) (by show 1 ≤ _; decide) ?_
  simp (decide := true) (maxSteps := 4000000) only [go_sem, Nat.reduceAdd, Nat.reduceSub, Nat.reduceMul, Nat.reduceDiv, Nat.reduceMod, Nat.reduceLT, Nat.reduceLeDiff, Nat.reduceEqDiff, Nat.reduceBEq, Nat.reduceBNe, Nat.reduceGT, Int.reduceAdd, Int.reduceSub, Int.reduceMul, Int.reduceNeg, Int.reduceLT, Int.reduceLE, Int.reduceEq, Int.reduceNe, Int.reduceBEq, Int.reduceBNe, Int.reduceToNat, Int.reduceGT, Int.reduceGE, ↓reduceIte, decide_true, decide_false, eq_self, Nat.mul_one, Nat.zero_mul, Nat.one_mul, Int.le_refl, Nat.le_refl, Int.cast_ofNat_Int, Try.f120, Sx.t, Sx.cs]
noncomputable def sxIndices : List TV → Option TV
  | [.agg [.int .i64 a0, .sl cs n f, .int .i64 a1, .int .i64 a2, .int .i64 a3, sS]] => some (.fn 129 [] [.cptr [.int .i64 a0, .sl cs n f, .int .i64 a1, .int .i64 a2, .int .i64 a3, sS]])
  | _ => none
theorem sxIndices_ok : ∀ xs r, sxIndices xs = some r → PCalls Try.prog 120 xs r := by
  intro xs r h
  unfold sxIndices at h
  split at h
  · cases h; exact sIndices_c ⟨_, [], ⟨_, _⟩, _, []⟩ _ _ ⟨_, _, _, rfl⟩
  · cases h
attribute [go_sem] sxIndices
theorem sIndicesI_c (x : Sx) (sT sS : TV) (hi : -1800 ≤ x.idx.lo ∧ x.idx.lo ≤ x.idx.hi ∧ x.idx.hi ≤ 1800) : Iter Try.prog 129 [] [.cptr (x.cs sT sS)] (idxV x) := by
  refine iter_by Try.mixes noSpec_ok (fn := Try.f129) Try.func129 rfl (by kernel_rfl) rfl (by show 2 ≤ _; decide) ?_
  intro y M stop hm1 hm2 hm3
  have hN : (idxV x).length = idxN x := by simp [idxV]
  rw [hN] at hm1 hm2
  simp (decide := true) (maxSteps := 4000000) only [go_sem, Nat.reduceAdd, Nat.reduceSub, Nat.reduceMul, Nat.reduceDiv, Nat.reduceMod, Nat.reduceLT, Nat.reduceLeDiff, Nat.reduceEqDiff, Nat.reduceBEq, Nat.reduceBNe, Nat.reduceGT, Int.reduceAdd, Int.reduceSub, Int.reduceMul, Int.reduceNeg, Int.reduceLT, Int.reduceLE, Int.reduceEq, Int.reduceNe, Int.reduceBEq, Int.reduceBNe, Int.reduceToNat, Int.reduceGT, Int.reduceGE, ↓reduceIte, decide_true, decide_false, eq_self, Nat.mul_one, Nat.zero_mul, Nat.one_mul, Int.le_refl, Nat.le_refl, Int.cast_ofNat_Int, Try.f129, Sx.cs]
  refine pwpC_loopU (A := { k : Nat // k ≤ idxN x ∧ (stop = true → k < M) }) [0, 1] (fun k => [(3, .t (.int .i64 (x.idx.lo + (k.1 : Int))))]) (fun k => [(0, .cnt k.1)]) (fun k => idxN x - k.1) ⟨0, by omega, hm3⟩ (by decide) (fun _ => by rfl) ?_ fun Q1 hQ1 ⟨k, hk, hst⟩ I1 hI1 => ?_
  · simp (decide := true) (maxSteps := 4000000) only [go_sem, Nat.reduceAdd, Nat.reduceSub, Nat.reduceMul, Nat.reduceDiv, Nat.reduceMod, Nat.reduceLT, Nat.reduceLeDiff, Nat.reduceEqDiff, Nat.reduceBEq, Nat.reduceBNe, Nat.reduceGT, Int.reduceAdd, Int.reduceSub, Int.reduceMul, Int.reduceNeg, Int.reduceLT, Int.reduceLE, Int.reduceEq, Int.reduceNe, Int.reduceBEq, Int.reduceBNe, Int.reduceToNat, Int.reduceGT, Int.reduceGE, ↓reduceIte, decide_true, decide_false, eq_self, Nat.mul_one, Nat.zero_mul, Nat.one_mul, Int.le_refl, Nat.le_refl, Int.cast_ofNat_Int, Int.add_zero]
  · by_cases hlt : x.idx.lo + (k : Int) ≤ x.idx.hi
    · have hkN : k < idxN x := by unfold idxN; omega
      have hat := idxV_at hkN
      have hcm : k < M := by
        cases stop with
        | true => exact hst rfl
        | false => rw [hm2 rfl]; exact hkN
      have w1 : IntKind.i64.wrap (x.idx.lo + (k : Int) + 1) = x.idx.lo + ((k + 1 : Nat) : Int) := by rw [wrap_in (by omega) (by omega)]; omega
      by_cases hs : (stop && k + 1 == M) = true
      · have hs' := hs
        simp only [Bool.and_eq_true, beq_iff_eq] at hs'
        simp (decide := true) (maxSteps := 4000000) only [go_sem, Nat.reduceAdd, Nat.reduceSub, Nat.reduceMul, Nat.reduceDiv, Nat.reduceMod, Nat.reduceLT, Nat.reduceLeDiff, Nat.reduceEqDiff, Nat.reduceBEq, Nat.reduceBNe, Nat.reduceGT, Int.reduceAdd, Int.reduceSub, Int.reduceMul, Int.reduceNeg, Int.reduceLT, Int.reduceLE, Int.reduceEq, Int.reduceNe, Int.reduceBEq, Int.reduceBNe, Int.reduceToNat, Int.reduceGT, Int.reduceGE, ↓reduceIte, decide_true, decide_false, eq_self, Nat.mul_one, Nat.zero_mul, Nat.one_mul, Int.le_refl, Nat.le_refl, Int.cast_ofNat_Int, hlt, hat, hcm, hs, hs'.1, hs'.2]
        try (refine hQ1 _ _ ?_; simp (decide := true) (maxSteps := 4000000) only [go_sem, Nat.reduceAdd, Nat.reduceSub, Nat.reduceMul, Nat.reduceDiv, Nat.reduceMod, Nat.reduceLT, Nat.reduceLeDiff, Nat.reduceEqDiff, Nat.reduceBEq, Nat.reduceBNe, Nat.reduceGT, Int.reduceAdd, Int.reduceSub, Int.reduceMul, Int.reduceNeg, Int.reduceLT, Int.reduceLE, Int.reduceEq, Int.reduceNe, Int.reduceBEq, Int.reduceBNe, Int.reduceToNat, Int.reduceGT, Int.reduceGE, ↓reduceIte, decide_true, decide_false, eq_self, Nat.mul_one, Nat.zero_mul, Nat.one_mul, Int.le_refl, Nat.le_refl, Int.cast_ofNat_Int])
      · have hs0 : (stop && k + 1 == M) = false := by simpa using hs
        simp (decide := true) (maxSteps := 4000000) only [go_sem, Nat.reduceAdd, Nat.reduceSub, Nat.reduceMul, Nat.reduceDiv, Nat.reduceMod, Nat.reduceLT, Nat.reduceLeDiff, Nat.reduceEqDiff, Nat.reduceBEq, Nat.reduceBNe, Nat.reduceGT, Int.reduceAdd, Int.reduceSub, Int.reduceMul, Int.reduceNeg, Int.reduceLT, Int.reduceLE, Int.reduceEq, Int.reduceNe, Int.reduceBEq, Int.reduceBNe, Int.reduceToNat, Int.reduceGT, Int.reduceGE, ↓reduceIte, decide_true, decide_false, eq_self, Nat.mul_one, Nat.zero_mul, Nat.one_mul, Int.le_refl, Nat.le_refl, Int.cast_ofNat_Int, hlt, hat, hcm, hs0]
        refine hI1 _ ⟨k + 1, by omega, fun h => ?_⟩ (by simp only; omega) ?_
        · subst h; simp at hs0; omega
        · simp (decide := true) (maxSteps := 4000000) only [go_sem, Nat.reduceAdd, Nat.reduceSub, Nat.reduceMul, Nat.reduceDiv, Nat.reduceMod, Nat.reduceLT, Nat.reduceLeDiff, Nat.reduceEqDiff, Nat.reduceBEq, Nat.reduceBNe, Nat.reduceGT, Int.reduceAdd, Int.reduceSub, Int.reduceMul, Int.reduceNeg, Int.reduceLT, Int.reduceLE, Int.reduceEq, Int.reduceNe, Int.reduceBEq, Int.reduceBNe, Int.reduceToNat, Int.reduceGT, Int.reduceGE, ↓reduceIte, decide_true, decide_false, eq_self, Nat.mul_one, Nat.zero_mul, Nat.one_mul, Int.le_refl, Nat.le_refl, Int.cast_ofNat_Int, w1]
    · have hkN : k = idxN x := by unfold idxN at *; omega
      simp (decide := true) (maxSteps := 4000000) only [go_sem, Nat.reduceAdd, Nat.reduceSub, Nat.reduceMul, Nat.reduceDiv, Nat.reduceMod, Nat.reduceLT, Nat.reduceLeDiff, Nat.reduceEqDiff, Nat.reduceBEq, Nat.reduceBNe, Nat.reduceGT, Int.reduceAdd, Int.reduceSub, Int.reduceMul, Int.reduceNeg, Int.reduceLT, Int.reduceLE, Int.reduceEq, Int.reduceNe, Int.reduceBEq, Int.reduceBNe, Int.reduceToNat, Int.reduceGT, Int.reduceGE, ↓reduceIte, decide_true, decide_false, eq_self, Nat.mul_one, Nat.zero_mul, Nat.one_mul, Int.le_refl, Nat.le_refl, Int.cast_ofNat_Int, hlt]
      refine hQ1 _ _ ?_
      have : k = M := by
        cases stop with
        | false => rw [hm2 rfl]; exact hkN
        | true => have := hst rfl; omega
      simp (decide := true) (maxSteps := 4000000) only [go_sem, Nat.reduceAdd, Nat.reduceSub, Nat.reduceMul, Nat.reduceDiv, Nat.reduceMod, Nat.reduceLT, Nat.reduceLeDiff, Nat.reduceEqDiff, Nat.reduceBEq, Nat.reduceBNe, Nat.reduceGT, Int.reduceAdd, Int.reduceSub, Int.reduceMul, Int.reduceNeg, Int.reduceLT, Int.reduceLE, Int.reduceEq, Int.reduceNe, Int.reduceBEq, Int.reduceBNe, Int.reduceToNat, Int.reduceGT, Int.reduceGE, ↓reduceIte, decide_true, decide_false, eq_self, Nat.mul_one, Nat.zero_mul, Nat.one_mul, Int.le_refl, Nat.le_refl, Int.cast_ofNat_Int, this]
end Go.Proofs.Ytadkjjnnnkfalaa.Sx

/- Part Sh. -/
namespace Go.Proofs.Ytadkjjnnnkfalaa.Sx
end Go.Proofs.Ytadkjjnnnkfalaa.Sx
namespace Go.Proofs.Ytadkjjnnnkfalaa.Sx
open Go.RowKit Go.Pm Go.Oc Go.Oh Go.Os
set_option maxRecDepth 100000
set_option linter.unusedVariables false
set_option maxHeartbeats 8000000

/-- Are so many of the readings such? -/
def sunTo (D : Span) (l : List Sun) (k : Nat) : Bool := spannedB D 1 4000 && (inB l.length 1 6 && (l.take k).all sunB)
theorem sunTo_succ {D : Span} {l : List Sun} {k : Nat} {p : Sun} (h : l[k]? = some p) : sunTo D l (k + 1) = (sunTo D l k && (inB p.on 0 6000 && inB p.off 0 6000)) := by
  unfold sunTo; rw [take_all sunB h]; unfold sunB; simp only [Bool.and_assoc]
theorem and3 : ∀ a b c : Bool, (a && b && c) = (a && (b && c)) := by decide
end Go.Proofs.Ytadkjjnnnkfalaa.Sx

/- Part Si. -/
namespace Go.Proofs.Ytadkjjnnnkfalaa.Sx
end Go.Proofs.Ytadkjjnnnkfalaa.Sx
namespace Go.Os
open Go Go.Pm Go.Oc Go.Oh
structure Tr where
  a : Int
  s : Int
  t : Int
def Tr.cs (x : Tr) : List TV := [.int .i64 x.a, .int .i64 x.s, .int .i64 x.t]
theorem Tr.cs_inj (x y : Tr) (h : x.cs = y.cs) : x = y := by
  obtain ⟨a, b, c⟩ := x; obtain ⟨d, e, f⟩ := y
  simp only [Tr.cs, List.cons.injEq, TV.int.injEq, true_and, and_true] at h
  rw [h.1, h.2.1, h.2.2]
noncomputable def unTr (cs : List TV) : Option (List Tr) := unflat Tr.cs cs
theorem unTr_eq (l : List Tr) : unTr (l.flatMap Tr.cs) = some l := unflat_eq (n := 3) (fun _ => rfl) (by decide) Tr.cs_inj l
theorem unTr_nil : unTr [] = some [] := unTr_eq []
theorem unTr_some {cs : List TV} {l : List Tr} (h : unTr cs = some l) : cs = l.flatMap Tr.cs := unflat_some h
theorem rowTr_is {s : TV} {l : List Tr} (h : IsRow Tr.cs s l) : rowL unTr s = some l := by
  rcases h with ⟨rfl, rfl⟩ | ⟨f, rfl⟩
  · exact unTr_nil
  · simp [rowL, unTr_eq]
attribute [go_sem] unTr_eq unTr_nil
/-- Is it a trial of a sextant? -/
def trB (x : Sx) (p : Tr) : Bool := isRd x p.a p.s && (decide (p.a % x.step = 0) && inB p.t (-10000) 510000)
def trsOk (x : Sx) (l : List Tr) : Bool := inB l.length 1 8 && l.all (trB x)
/-- At which angle of the table. -/
def trK (x : Sx) (p : Tr) : Nat := (p.a / x.step).toNat
/-- Between what the correction and the index error, together, lie by a trial. -/
def trS (x : Sx) (p : Tr) : Span := ⟨p.t - p.a - (shs x p.s.toNat).hi, p.t - p.a - (shs x p.s.toNat).lo⟩
def sumsN (x : Sx) (l : List Tr) (k : Nat) : List Span := (l.filter fun p => trK x p == k).map (trS x)
def atN (x : Sx) (l : List Tr) (k : Nat) : Bool := l.any fun p => trK x p == k
theorem sumsN_take {x : Sx} {l : List Tr} {j : Nat} {p : Tr} (h : l[j]? = some p) (k : Nat) : sumsN x (l.take (j + 1)) k = if trK x p = k then sumsN x (l.take j) k ++ [trS x p] else sumsN x (l.take j) k := by
  unfold sumsN
  rw [take_snoc h, List.filter_append, List.map_append]
  by_cases e : trK x p = k
  · rw [if_pos e]; simp [e]
  · rw [if_neg e]; simp [e]
theorem atN_take {x : Sx} {l : List Tr} {j : Nat} {p : Tr} (h : l[j]? = some p) (k : Nat) : atN x (l.take (j + 1)) k = if trK x p = k then true else atN x (l.take j) k := by
  unfold atN
  rw [take_snoc h, List.any_append]
  by_cases e : trK x p = k
  · rw [if_pos e]; simp [e]
  · rw [if_neg e]; simp [e]
theorem sumsN_len (x : Sx) (l : List Tr) (k : Nat) : (sumsN x l k).length ≤ l.length := by
  unfold sumsN; rw [List.length_map]; exact List.length_filter_le _ _
/-- What heard returns. -/
def heardC (x : Sx) (l : List Tr) : List TV := [.bool (atN x l 0), .bool (atN x l 1), .bool (atN x l 2), .bool (atN x l 3), .bool (atN x l 4), .bool (atN x l 5), .bool (atN x l 6), .bool (atN x l 7), .bool (atN x l 8), .bool (atN x l 9), .bool (atN x l 10), .bool (atN x l 11),
  .imap 197 [rowSp (sumsN x l 0), rowSp (sumsN x l 1), rowSp (sumsN x l 2), rowSp (sumsN x l 3), rowSp (sumsN x l 4), rowSp (sumsN x l 5), rowSp (sumsN x l 6), rowSp (sumsN x l 7), rowSp (sumsN x l 8), rowSp (sumsN x l 9), rowSp (sumsN x l 10), rowSp (sumsN x l 11)]]
def heardT (x : Sx) (l : List Tr) : TV := .agg (heardC x l)
theorem trK_lt {x : Sx} (h : GoodS x) {p : Tr} (hp : trB x p = true) : trK x p < 12 ∧ trK x p < x.tab.length := by
  unfold trB at hp
  simp only [Bool.and_eq_true] at hp
  obtain ⟨h1, _⟩ := isRd_iff.1 hp.1
  have := (rd_tab h h1.1 h1.2).kn
  have := h.len
  unfold trK; omega
theorem lt12 {k : Nat} (h : k < 12) : k = 0 ∨ k = 1 ∨ k = 2 ∨ k = 3 ∨ k = 4 ∨ k = 5 ∨ k = 6 ∨ k = 7 ∨ k = 8 ∨ k = 9 ∨ k = 10 ∨ k = 11 := by omega
end Go.Os
namespace Go.Proofs.Ytadkjjnnnkfalaa.Sx
open Go.RowKit Go.Pm Go.Oc Go.Oh Go.Os
set_option maxRecDepth 100000
set_option linter.unusedVariables false
set_option maxHeartbeats 8000000

theorem wl0 : IntKind.i64.wrap 0 = 0 := rfl
theorem wl1 : IntKind.i64.wrap 1 = 1 := rfl
theorem wl2 : IntKind.i64.wrap 2 = 2 := rfl
theorem wl3 : IntKind.i64.wrap 3 = 3 := rfl
theorem wl4 : IntKind.i64.wrap 4 = 4 := rfl
theorem wl5 : IntKind.i64.wrap 5 = 5 := rfl
theorem wl6 : IntKind.i64.wrap 6 = 6 := rfl
theorem wl7 : IntKind.i64.wrap 7 = 7 := rfl
theorem wl8 : IntKind.i64.wrap 8 = 8 := rfl
theorem wl9 : IntKind.i64.wrap 9 = 9 := rfl
theorem wl10 : IntKind.i64.wrap 10 = 10 := rfl
theorem wl11 : IntKind.i64.wrap 11 = 11 := rfl
theorem wl12 : IntKind.i64.wrap 12 = 12 := rfl
noncomputable def spHa : Pm.Spec := Spec.oneH 113 sxReading { (noSpec.one 114 sxAdded) with mu := fun t => t == 197, fr := fun f => f == 114 }
@[go_sem] theorem spHa_p (f : FuncId) (xs : List TV) : spHa.p f xs = Pm.Spec.p (Spec.oneH 113 sxReading { (noSpec.one 114 sxAdded) with mu := fun t => t == 197, fr := fun f => f == 114 }) f xs := rfl
@[go_sem] theorem spHa_h (f : FuncId) (ps : List PV) (hl : List PO) : spHa.h f ps hl = Pm.Spec.h (Spec.oneH 113 sxReading { (noSpec.one 114 sxAdded) with mu := fun t => t == 197, fr := fun f => f == 114 }) f ps hl := rfl
@[go_sem] theorem spHa_y (Y : Pm.YS) (f : FuncId) (ps : List PV) (hl : List PO) : spHa.y Y f ps hl = Pm.Spec.y (Spec.oneH 113 sxReading { (noSpec.one 114 sxAdded) with mu := fun t => t == 197, fr := fun f => f == 114 }) Y f ps hl := rfl
@[go_sem] theorem spHa_fz (f : FuncId) : spHa.fz f = Pm.Spec.fz (Spec.oneH 113 sxReading { (noSpec.one 114 sxAdded) with mu := fun t => t == 197, fr := fun f => f == 114 }) f := rfl
@[go_sem] theorem spHa_fr (f : FuncId) : spHa.fr f = Pm.Spec.fr (Spec.oneH 113 sxReading { (noSpec.one 114 sxAdded) with mu := fun t => t == 197, fr := fun f => f == 114 }) f := rfl
@[go_sem] theorem spHa_yf (f : FuncId) : spHa.yf f = Pm.Spec.yf (Spec.oneH 113 sxReading { (noSpec.one 114 sxAdded) with mu := fun t => t == 197, fr := fun f => f == 114 }) f := rfl
@[go_sem] theorem spHa_mu (t : TypeId) : spHa.mu t = Pm.Spec.mu (Spec.oneH 113 sxReading { (noSpec.one 114 sxAdded) with mu := fun t => t == 197, fr := fun f => f == 114 }) t := rfl
@[go_sem] theorem spHa_nf (t : TypeId) : spHa.nf t = Pm.Spec.nf (Spec.oneH 113 sxReading { (noSpec.one 114 sxAdded) with mu := fun t => t == 197, fr := fun f => f == 114 }) t := rfl
theorem spHa_ok : SpecOk Try.prog spHa := Spec.oneH_ok sxReading_ok ⟨(Spec.one_ok sxAdded_ok noSpec_ok).1, (Spec.one_ok sxAdded_ok noSpec_ok).2⟩
theorem sHeard_c (x : Sx) {sT sS : TV} (hT : IsRow Span.cs sT x.tab) (hS : IsRow Span.cs sS x.shade) (hv : sxOk x = true) {l : List Tr} {s : TV} (hs : IsRow Tr.cs s l) (hl : l.all (trB x) = true) (h8 : l.length ≤ 8) :
    PCalls Try.prog 88 [x.t sT sS, s] (heardT x l) := by
  have h := sxOk_iff.1 hv
  have rS := rowS_is hS
  unfold rowL at rS
  simp only [unS_nil] at rS
  have e0 : Sx.mk x.step x.tab ⟨x.idx.lo, x.idx.hi⟩ x.wrong x.shade = x := rfl
  obtain ⟨f, rfl⟩ := good_T h hT
  refine pcalls_by Try.mixes spHa_ok (fn := Try.f88) Try.func88 rfl (by kernel_rfl) (by show 2 ≤ _; decide) ?_
  rcases hs with ⟨rfl, rfl⟩ | ⟨g, rfl⟩
  · simp (decide := true) (maxSteps := 4000000) only [go_sem, Nat.reduceAdd, Nat.reduceSub, Nat.reduceMul, Nat.reduceDiv, Nat.reduceMod, Nat.reduceLT, Nat.reduceLeDiff, Nat.reduceEqDiff, Nat.reduceBEq, Nat.reduceBNe, Nat.reduceGT, Int.reduceAdd, Int.reduceSub, Int.reduceMul, Int.reduceNeg, Int.reduceLT, Int.reduceLE, Int.reduceEq, Int.reduceNe, Int.reduceBEq, Int.reduceBNe, Int.reduceToNat, Int.reduceGT, Int.reduceGE, ↓reduceIte, decide_true, decide_false, eq_self, Nat.mul_one, Nat.zero_mul, Nat.one_mul, Int.le_refl, Nat.le_refl, Int.cast_ofNat_Int, Try.f88, Sx.t, Sx.cs]
    refine pwpC_loopU (A := Unit) [2, 4, 5, 12, 13] (fun _ => [(14, .t (.int .i64 0))]) (fun _ => []) (fun _ => 0) () (by decide) (fun _ => by rfl) ?_ fun Q1 hQ1 _ I1 hI1 => ?_
    · simp (decide := true) (maxSteps := 4000000) only [go_sem, Nat.reduceAdd, Nat.reduceSub, Nat.reduceMul, Nat.reduceDiv, Nat.reduceMod, Nat.reduceLT, Nat.reduceLeDiff, Nat.reduceEqDiff, Nat.reduceBEq, Nat.reduceBNe, Nat.reduceGT, Int.reduceAdd, Int.reduceSub, Int.reduceMul, Int.reduceNeg, Int.reduceLT, Int.reduceLE, Int.reduceEq, Int.reduceNe, Int.reduceBEq, Int.reduceBNe, Int.reduceToNat, Int.reduceGT, Int.reduceGE, ↓reduceIte, decide_true, decide_false, eq_self, Nat.mul_one, Nat.zero_mul, Nat.one_mul, Int.le_refl, Nat.le_refl, Int.cast_ofNat_Int]
    · simp (decide := true) (maxSteps := 4000000) only [go_sem, Nat.reduceAdd, Nat.reduceSub, Nat.reduceMul, Nat.reduceDiv, Nat.reduceMod, Nat.reduceLT, Nat.reduceLeDiff, Nat.reduceEqDiff, Nat.reduceBEq, Nat.reduceBNe, Nat.reduceGT, Int.reduceAdd, Int.reduceSub, Int.reduceMul, Int.reduceNeg, Int.reduceLT, Int.reduceLE, Int.reduceEq, Int.reduceNe, Int.reduceBEq, Int.reduceBNe, Int.reduceToNat, Int.reduceGT, Int.reduceGE, ↓reduceIte, decide_true, decide_false, eq_self, Nat.mul_one, Nat.zero_mul, Nat.one_mul, Int.le_refl, Nat.le_refl, Int.cast_ofNat_Int]
      refine hQ1 _ _ ?_
      simp (decide := true) (maxSteps := 4000000) only [go_sem, Nat.reduceAdd, Nat.reduceSub, Nat.reduceMul, Nat.reduceDiv, Nat.reduceMod, Nat.reduceLT, Nat.reduceLeDiff, Nat.reduceEqDiff, Nat.reduceBEq, Nat.reduceBNe, Nat.reduceGT, Int.reduceAdd, Int.reduceSub, Int.reduceMul, Int.reduceNeg, Int.reduceLT, Int.reduceLE, Int.reduceEq, Int.reduceNe, Int.reduceBEq, Int.reduceBNe, Int.reduceToNat, Int.reduceGT, Int.reduceGE, ↓reduceIte, decide_true, decide_false, eq_self, Nat.mul_one, Nat.zero_mul, Nat.one_mul, Int.le_refl, Nat.le_refl, Int.cast_ofNat_Int, heardT, heardC, atN, sumsN, rowSp, List.any_nil, List.filter_nil, List.map_nil, freezeW, freezeO, thawA, wr, upo]
  · simp (decide := true) (maxSteps := 4000000) only [go_sem, Nat.reduceAdd, Nat.reduceSub, Nat.reduceMul, Nat.reduceDiv, Nat.reduceMod, Nat.reduceLT, Nat.reduceLeDiff, Nat.reduceEqDiff, Nat.reduceBEq, Nat.reduceBNe, Nat.reduceGT, Int.reduceAdd, Int.reduceSub, Int.reduceMul, Int.reduceNeg, Int.reduceLT, Int.reduceLE, Int.reduceEq, Int.reduceNe, Int.reduceBEq, Int.reduceBNe, Int.reduceToNat, Int.reduceGT, Int.reduceGE, ↓reduceIte, decide_true, decide_false, eq_self, Nat.mul_one, Nat.zero_mul, Nat.one_mul, Int.le_refl, Nat.le_refl, Int.cast_ofNat_Int, Try.f88, Sx.t, Sx.cs]
    refine pwpC_loopU (A := { j : Nat // j ≤ l.length }) [2, 4, 5, 12, 13] (fun j => [(14, .t (.int .i64 j.1))]) (fun j => [(2, .mpo 197 [.own ((sumsN x (l.take j.1) 0).flatMap Span.cs) (sumsN x (l.take j.1) 0).length 4, .own ((sumsN x (l.take j.1) 1).flatMap Span.cs) (sumsN x (l.take j.1) 1).length 5,
        .own ((sumsN x (l.take j.1) 2).flatMap Span.cs) (sumsN x (l.take j.1) 2).length 6, .own ((sumsN x (l.take j.1) 3).flatMap Span.cs) (sumsN x (l.take j.1) 3).length 7, .own ((sumsN x (l.take j.1) 4).flatMap Span.cs) (sumsN x (l.take j.1) 4).length 8,
        .own ((sumsN x (l.take j.1) 5).flatMap Span.cs) (sumsN x (l.take j.1) 5).length 9, .own ((sumsN x (l.take j.1) 6).flatMap Span.cs) (sumsN x (l.take j.1) 6).length 10, .own ((sumsN x (l.take j.1) 7).flatMap Span.cs) (sumsN x (l.take j.1) 7).length 11,
        .own ((sumsN x (l.take j.1) 8).flatMap Span.cs) (sumsN x (l.take j.1) 8).length 12, .own ((sumsN x (l.take j.1) 9).flatMap Span.cs) (sumsN x (l.take j.1) 9).length 13, .own ((sumsN x (l.take j.1) 10).flatMap Span.cs) (sumsN x (l.take j.1) 10).length 14,
        .own ((sumsN x (l.take j.1) 11).flatMap Span.cs) (sumsN x (l.take j.1) 11).length 15]),
      (3, .box [.t (.bool (atN x (l.take j.1) 0)), .t (.bool (atN x (l.take j.1) 1)), .t (.bool (atN x (l.take j.1) 2)), .t (.bool (atN x (l.take j.1) 3)), .t (.bool (atN x (l.take j.1) 4)), .t (.bool (atN x (l.take j.1) 5)), .t (.bool (atN x (l.take j.1) 6)),
        .t (.bool (atN x (l.take j.1) 7)), .t (.bool (atN x (l.take j.1) 8)), .t (.bool (atN x (l.take j.1) 9)), .t (.bool (atN x (l.take j.1) 10)), .t (.bool (atN x (l.take j.1) 11)), .mapr 2]),
      (4, .tok (sumsN x (l.take j.1) 0).length 29), (5, .tok (sumsN x (l.take j.1) 1).length 29), (6, .tok (sumsN x (l.take j.1) 2).length 29), (7, .tok (sumsN x (l.take j.1) 3).length 29),
      (8, .tok (sumsN x (l.take j.1) 4).length 29), (9, .tok (sumsN x (l.take j.1) 5).length 29), (10, .tok (sumsN x (l.take j.1) 6).length 29), (11, .tok (sumsN x (l.take j.1) 7).length 29),
      (12, .tok (sumsN x (l.take j.1) 8).length 29), (13, .tok (sumsN x (l.take j.1) 9).length 29), (14, .tok (sumsN x (l.take j.1) 10).length 29), (15, .tok (sumsN x (l.take j.1) 11).length 29)])
      (fun j => l.length - j.1) ⟨0, by omega⟩ (by decide) (fun _ => by rfl) ?_ fun Q1 hQ1 ⟨j, hj⟩ I1 hI1 => ?_
    · have z1 : ∀ k, sumsN x [] k = [] := fun k => by simp [sumsN]
      have z2 : ∀ k, atN x [] k = false := fun k => by simp [atN]
      simp (decide := true) (maxSteps := 4000000) only [go_sem, Nat.reduceAdd, Nat.reduceSub, Nat.reduceMul, Nat.reduceDiv, Nat.reduceMod, Nat.reduceLT, Nat.reduceLeDiff, Nat.reduceEqDiff, Nat.reduceBEq, Nat.reduceBNe, Nat.reduceGT, Int.reduceAdd, Int.reduceSub, Int.reduceMul, Int.reduceNeg, Int.reduceLT, Int.reduceLE, Int.reduceEq, Int.reduceNe, Int.reduceBEq, Int.reduceBNe, Int.reduceToNat, Int.reduceGT, Int.reduceGE, ↓reduceIte, decide_true, decide_false, eq_self, Nat.mul_one, Nat.zero_mul, Nat.one_mul, Int.le_refl, Nat.le_refl, Int.cast_ofNat_Int, z1, z2]
    · by_cases hlt : (j : Int) < l.length
      · obtain ⟨p, hp⟩ := get_lt hlt
        have hd := flat_at Tr.cs (n := 3) (fun _ => rfl) hp
        have hc1 : IntKind.i64.wrap (j + 1) = ((j + 1 : Nat) : Int) := by rw [wrap_in (by omega) (by omega)]; omega
        have hpb := List.all_eq_true.1 hl p (List.mem_of_getElem? hp)
        have hk12 := (trK_lt h hpb).1
        have hpb' := hpb
        unfold trB at hpb'
        simp only [Bool.and_eq_true, inB_iff, decide_eq_true_eq] at hpb'
        obtain ⟨hr, hdiv, ht⟩ := hpb'
        obtain ⟨hr1, hr2⟩ := isRd_iff.1 hr
        have hp6 := pow_len h.sh
        have hlb := last_b h
        have hst := h.st
        have hs64 : 0 ≤ p.s ∧ p.s < 64 := by omega
        have hne : ¬ x.step = 0 := by omega
        have q1 : p.a.tdiv x.step = p.a / x.step := Int.tdiv_eq_ediv_of_nonneg hr1.1
        have q0 : 0 ≤ p.a / x.step := Int.ediv_nonneg hr1.1 (by omega)
        have qk : p.a / x.step = (trK x p : Int) := by unfold trK; rw [Int.toNat_of_nonneg q0]
        have w0 : IntKind.i64.wrap (trK x p : Int) = (trK x p : Int) := wrap_in (by omega) (by omega)
        have hln := shA_len x p.s.toNat x.shade.length
        have hLok := shA_ok h p.s.toNat p.a x.shade.length (Nat.le_refl _)
        have hLs := shA_sum x p.s.toNat p.a x.shade.length
        have hsb := shs_b h p.s.toNat
        obtain ⟨L, hL⟩ : ∃ L, shA x p.s.toNat x.shade.length = L := ⟨_, rfl⟩
        rw [hL] at hln hLok hLs
        have h6 := h.sh
        have htk : List.take L.length (L.flatMap Ad.cs) = L.flatMap Ad.cs := List.take_of_length_le (by rw [flat_len Ad.cs (n := 1) (fun _ => rfl)]; omega)
        have hlen : (List.map PV.t (L.flatMap Ad.cs)).length = L.length := by rw [List.length_map, flat_len Ad.cs (n := 1) (fun _ => rfl), Nat.mul_one]
        have hlen2 : (L.flatMap Ad.cs).length = L.length := by rw [flat_len Ad.cs (n := 1) (fun _ => rfl), Nat.mul_one]
        have h16 : L.length ≤ 16 := by omega
        obtain ⟨M, hM⟩ : ∃ M, shs x p.s.toNat = M := ⟨_, rfl⟩
        have hLs' : sumL (L.map (·.at' p.a)) = M := by rw [hLs, ← hM]; rfl
        rw [hM] at hsb
        have w1 : IntKind.i64.wrap (p.t - p.a) = p.t - p.a := wrap_in (by omega) (by omega)
        have w2 : IntKind.i64.wrap (p.t - p.a - M.hi) = p.t - p.a - M.hi := wrap_in (by omega) (by omega)
        have w3 : IntKind.i64.wrap (p.t - p.a - M.lo) = p.t - p.a - M.lo := wrap_in (by omega) (by omega)
        have htr : trS x p = ⟨p.t - p.a - M.hi, p.t - p.a - M.lo⟩ := by unfold trS; rw [hM]
        have n1 := sumsN_take (x := x) hp
        have n2 := atN_take (x := x) hp
        have hcl : ∀ k, (List.flatMap Span.cs (sumsN x (l.take j) k)).length = (sumsN x (l.take j) k).length * 2 := fun k => flat_len Span.cs (n := 2) (fun _ => rfl) _
        have hrm : ∀ k, ((sumsN x (l.take j) k).length + 1) * 16 ≤ 140737488355328 := fun k => by
          have := sumsN_len x (l.take j) k
          rw [List.length_take] at this
          omega
        rw [htr] at n1
        rcases lt12 hk12 with hk | hk | hk | hk | hk | hk | hk | hk | hk | hk | hk | hk
        all_goals
          rw [hk] at qk w0 n1 n2
          simp (decide := true) (maxSteps := 4000000) only [go_sem, Nat.reduceAdd, Nat.reduceSub, Nat.reduceMul, Nat.reduceDiv, Nat.reduceMod, Nat.reduceLT, Nat.reduceLeDiff, Nat.reduceEqDiff, Nat.reduceBEq, Nat.reduceBNe, Nat.reduceGT, Int.reduceAdd, Int.reduceSub, Int.reduceMul, Int.reduceNeg, Int.reduceLT, Int.reduceLE, Int.reduceEq, Int.reduceNe, Int.reduceBEq, Int.reduceBNe, Int.reduceToNat, Int.reduceGT, Int.reduceGE, ↓reduceIte, decide_true, decide_false, eq_self, Nat.mul_one, Nat.zero_mul, Nat.one_mul, Int.le_refl, Nat.le_refl, Int.cast_ofNat_Int, hlt, hd, Tr.cs, Sx.cs, hne, q1, qk, wl0, wl1, wl2, wl3, wl4, wl5, wl6, wl7, wl8, wl9, wl10, wl11, unS_eq, rS, e0, hv, hs64, hL, rdV, rdO, freezeW, freezeO, closedG, seenF, wr, upo, htk, hlen, hlen2, h16, hLok, hLs', List.drop_zero, Nat.mul_one, Nat.zero_add, Nat.zero_mul, Span.t, Span.cs, w1, w2, w3, hcl, hrm]
          refine hI1 _ ⟨j + 1, by omega⟩ (by simp only; omega) ?_
          simp (decide := true) (maxSteps := 4000000) only [go_sem, Nat.reduceAdd, Nat.reduceSub, Nat.reduceMul, Nat.reduceDiv, Nat.reduceMod, Nat.reduceLT, Nat.reduceLeDiff, Nat.reduceEqDiff, Nat.reduceBEq, Nat.reduceBNe, Nat.reduceGT, Int.reduceAdd, Int.reduceSub, Int.reduceMul, Int.reduceNeg, Int.reduceLT, Int.reduceLE, Int.reduceEq, Int.reduceNe, Int.reduceBEq, Int.reduceBNe, Int.reduceToNat, Int.reduceGT, Int.reduceGE, ↓reduceIte, decide_true, decide_false, eq_self, Nat.mul_one, Nat.zero_mul, Nat.one_mul, Int.le_refl, Nat.le_refl, Int.cast_ofNat_Int, hc1, n1, n2, List.flatMap_append, List.length_append, Span.cs, Sx.cs]
      · have hje : j = l.length := by omega
        subst hje
        simp (decide := true) (maxSteps := 4000000) only [go_sem, Nat.reduceAdd, Nat.reduceSub, Nat.reduceMul, Nat.reduceDiv, Nat.reduceMod, Nat.reduceLT, Nat.reduceLeDiff, Nat.reduceEqDiff, Nat.reduceBEq, Nat.reduceBNe, Nat.reduceGT, Int.reduceAdd, Int.reduceSub, Int.reduceMul, Int.reduceNeg, Int.reduceLT, Int.reduceLE, Int.reduceEq, Int.reduceNe, Int.reduceBEq, Int.reduceBNe, Int.reduceToNat, Int.reduceGT, Int.reduceGE, ↓reduceIte, decide_true, decide_false, eq_self, Nat.mul_one, Nat.zero_mul, Nat.one_mul, Int.le_refl, Nat.le_refl, Int.cast_ofNat_Int, hlt]
        refine hQ1 _ _ ?_
        rw [List.take_length]
        simp (decide := true) (maxSteps := 4000000) only [go_sem, Nat.reduceAdd, Nat.reduceSub, Nat.reduceMul, Nat.reduceDiv, Nat.reduceMod, Nat.reduceLT, Nat.reduceLeDiff, Nat.reduceEqDiff, Nat.reduceBEq, Nat.reduceBNe, Nat.reduceGT, Int.reduceAdd, Int.reduceSub, Int.reduceMul, Int.reduceNeg, Int.reduceLT, Int.reduceLE, Int.reduceEq, Int.reduceNe, Int.reduceBEq, Int.reduceBNe, Int.reduceToNat, Int.reduceGT, Int.reduceGE, ↓reduceIte, decide_true, decide_false, eq_self, Nat.mul_one, Nat.zero_mul, Nat.one_mul, Int.le_refl, Nat.le_refl, Int.cast_ofNat_Int, heardT, heardC, rowSp, freezeW, freezeO, thawA, wr, upo]
end Go.Proofs.Ytadkjjnnnkfalaa.Sx

/- Part Sj. -/
namespace Go.Proofs.Ytadkjjnnnkfalaa.Sx
end Go.Proofs.Ytadkjjnnnkfalaa.Sx
namespace Go.Os
open Go Go.Pm Go.Oc Go.Oh
def trTo (x : Sx) (l : List Tr) (k : Nat) : Bool := inB l.length 1 8 && (l.take k).all (trB x)
theorem trTo_succ {x : Sx} {l : List Tr} {k : Nat} {p : Tr} (h : l[k]? = some p) : trTo x l (k + 1) = (trTo x l k && (isRd x p.a p.s && (decide (p.a % x.step = 0) && inB p.t (-10000) 510000))) := by
  unfold trTo; rw [take_all (trB x) h]; unfold trB; simp only [Bool.and_assoc]
/-- With which error a sextant and trials are opened. -/
def openedE (x : Sx) (l : List Tr) : Int := if sxOk x then (if trsOk x l then 0 else 53) else 50
def openedT (x : Sx) (sT sS : TV) : TV := if sxOk x then x.t sT sS else .agg [.int .i64 0, .nilSl, .int .i64 0, .int .i64 0, .int .i64 0, .nilSl]
theorem and4 : ∀ a b c d : Bool, ((a && b && c) && d) = (a && (b && (c && d))) := by decide
theorem tmod0 (a b : Int) : (a.tmod b == 0) = decide (a % b = 0) := by
  have : a.tmod b = 0 ↔ a % b = 0 := by rw [← Int.dvd_iff_tmod_eq_zero, ← Int.dvd_iff_emod_eq_zero]
  by_cases h : a % b = 0
  · rw [decide_eq_true h]; simp [this.2 h]
  · rw [decide_eq_false h]; simp [mt this.1 h]
theorem tmod_b (a : Int) {b : Int} (h : 0 < b) : -b < a.tmod b ∧ a.tmod b < b := by
  have := Int.tmod_lt_of_pos a h
  have h6 := Int.tmod_lt_of_pos (-a) h
  rw [Int.neg_tmod] at h6
  omega
end Go.Os
namespace Go.Proofs.Ytadkjjnnnkfalaa.Sx
open Go.RowKit Go.Pm Go.Oc Go.Oh Go.Os
set_option maxRecDepth 100000
set_option linter.unusedVariables false
set_option maxHeartbeats 8000000

noncomputable def spJa : Pm.Spec := ((spSa.one 43 sxCheck).one 73 sxIsReading)
@[go_sem] theorem spJa_p (f : FuncId) (xs : List TV) : spJa.p f xs = Pm.Spec.p (((spSa.one 43 sxCheck).one 73 sxIsReading)) f xs := rfl
@[go_sem] theorem spJa_h (f : FuncId) (ps : List PV) (hl : List PO) : spJa.h f ps hl = Pm.Spec.h (((spSa.one 43 sxCheck).one 73 sxIsReading)) f ps hl := rfl
@[go_sem] theorem spJa_y (Y : Pm.YS) (f : FuncId) (ps : List PV) (hl : List PO) : spJa.y Y f ps hl = Pm.Spec.y (((spSa.one 43 sxCheck).one 73 sxIsReading)) Y f ps hl := rfl
@[go_sem] theorem spJa_fz (f : FuncId) : spJa.fz f = Pm.Spec.fz (((spSa.one 43 sxCheck).one 73 sxIsReading)) f := rfl
@[go_sem] theorem spJa_fr (f : FuncId) : spJa.fr f = Pm.Spec.fr (((spSa.one 43 sxCheck).one 73 sxIsReading)) f := rfl
@[go_sem] theorem spJa_yf (f : FuncId) : spJa.yf f = Pm.Spec.yf (((spSa.one 43 sxCheck).one 73 sxIsReading)) f := rfl
@[go_sem] theorem spJa_mu (t : TypeId) : spJa.mu t = Pm.Spec.mu (((spSa.one 43 sxCheck).one 73 sxIsReading)) t := rfl
@[go_sem] theorem spJa_nf (t : TypeId) : spJa.nf t = Pm.Spec.nf (((spSa.one 43 sxCheck).one 73 sxIsReading)) t := rfl
theorem spJa_ok : SpecOk Try.prog spJa := Spec.one_ok sxIsReading_ok (Spec.one_ok sxCheck_ok spSa_ok)
theorem sOpened_c (x : Sx) {sT sS : TV} (hT : IsRow Span.cs sT x.tab) (hS : IsRow Span.cs sS x.shade) (lT : x.tab.length ≤ 9000000000000) (lS : x.shade.length ≤ 9000000000000) {l : List Tr} {s : TV} (hs : IsRow Tr.cs s l) (ll : l.length ≤ 9000000000000) :
    PCalls Try.prog 86 [x.t sT sS, s] (.tup [openedT x sT sS, .int .i64 (openedE x l)]) := by
  have rT := rowS_is hT
  have rS := rowS_is hS
  unfold rowL at rT rS
  simp only [unS_nil] at rT rS
  have e0 : Sx.mk x.step x.tab ⟨x.idx.lo, x.idx.hi⟩ x.wrong x.shade = x := rfl
  refine pcalls_by Try.mixes spJa_ok (fn := Try.f86) Try.func86 rfl (by kernel_rfl) (by show 2 ≤ _; decide) ?_
  unfold openedT openedE
  cases hv : sxOk x with
  | false =>
    have b : ((50 : Int) != 0) = true := rfl
    rcases hs with ⟨rfl, rfl⟩ | ⟨g, rfl⟩ <;> simp (decide := true) (maxSteps := 4000000) only [go_sem, Nat.reduceAdd, Nat.reduceSub, Nat.reduceMul, Nat.reduceDiv, Nat.reduceMod, Nat.reduceLT, Nat.reduceLeDiff, Nat.reduceEqDiff, Nat.reduceBEq, Nat.reduceBNe, Nat.reduceGT, Int.reduceAdd, Int.reduceSub, Int.reduceMul, Int.reduceNeg, Int.reduceLT, Int.reduceLE, Int.reduceEq, Int.reduceNe, Int.reduceBEq, Int.reduceBNe, Int.reduceToNat, Int.reduceGT, Int.reduceGE, ↓reduceIte, decide_true, decide_false, eq_self, Nat.mul_one, Nat.zero_mul, Nat.one_mul, Int.le_refl, Nat.le_refl, Int.cast_ofNat_Int, Try.f86, Sx.t, Sx.cs, rT, rS, lT, lS, e0, hv, b]
  | true =>
    have h := sxOk_iff.1 hv
    obtain ⟨f, rfl⟩ := good_T h hT
    have b : ((0 : Int) != 0) = false := rfl
    have hend : trTo x l l.length = trsOk x l := by unfold trTo trsOk; rw [List.take_length]
    have hcase : trTo x l 0 = inB l.length 1 8 := by simp [trTo]
    rcases hs with ⟨rfl, rfl⟩ | ⟨g, rfl⟩
    · have c1 : inB 0 1 8 = false := rfl
      have c2 : trsOk x [] = false := by rw [← hend]; simp [trTo, c1]
      simp (decide := true) (maxSteps := 4000000) only [go_sem, Nat.reduceAdd, Nat.reduceSub, Nat.reduceMul, Nat.reduceDiv, Nat.reduceMod, Nat.reduceLT, Nat.reduceLeDiff, Nat.reduceEqDiff, Nat.reduceBEq, Nat.reduceBNe, Nat.reduceGT, Int.reduceAdd, Int.reduceSub, Int.reduceMul, Int.reduceNeg, Int.reduceLT, Int.reduceLE, Int.reduceEq, Int.reduceNe, Int.reduceBEq, Int.reduceBNe, Int.reduceToNat, Int.reduceGT, Int.reduceGE, ↓reduceIte, decide_true, decide_false, eq_self, Nat.mul_one, Nat.zero_mul, Nat.one_mul, Int.le_refl, Nat.le_refl, Int.cast_ofNat_Int, Try.f86, Sx.t, Sx.cs, rT, rS, unS_eq, lT, lS, e0, hv, b, c1]
      refine pwpC_loopU (A := Unit) [2, 4, 5, 7, 22, 23] (fun _ => [(24, .t (.int .i64 0)), (8, .t (.bool false))]) (fun _ => []) (fun _ => 0) () (by decide) (fun _ => by rfl) ?_ fun Q1 hQ1 _ I1 hI1 => ?_
      · simp (decide := true) (maxSteps := 4000000) only [go_sem, Nat.reduceAdd, Nat.reduceSub, Nat.reduceMul, Nat.reduceDiv, Nat.reduceMod, Nat.reduceLT, Nat.reduceLeDiff, Nat.reduceEqDiff, Nat.reduceBEq, Nat.reduceBNe, Nat.reduceGT, Int.reduceAdd, Int.reduceSub, Int.reduceMul, Int.reduceNeg, Int.reduceLT, Int.reduceLE, Int.reduceEq, Int.reduceNe, Int.reduceBEq, Int.reduceBNe, Int.reduceToNat, Int.reduceGT, Int.reduceGE, ↓reduceIte, decide_true, decide_false, eq_self, Nat.mul_one, Nat.zero_mul, Nat.one_mul, Int.le_refl, Nat.le_refl, Int.cast_ofNat_Int]
      · simp (decide := true) (maxSteps := 4000000) only [go_sem, Nat.reduceAdd, Nat.reduceSub, Nat.reduceMul, Nat.reduceDiv, Nat.reduceMod, Nat.reduceLT, Nat.reduceLeDiff, Nat.reduceEqDiff, Nat.reduceBEq, Nat.reduceBNe, Nat.reduceGT, Int.reduceAdd, Int.reduceSub, Int.reduceMul, Int.reduceNeg, Int.reduceLT, Int.reduceLE, Int.reduceEq, Int.reduceNe, Int.reduceBEq, Int.reduceBNe, Int.reduceToNat, Int.reduceGT, Int.reduceGE, ↓reduceIte, decide_true, decide_false, eq_self, Nat.mul_one, Nat.zero_mul, Nat.one_mul, Int.le_refl, Nat.le_refl, Int.cast_ofNat_Int]
        refine hQ1 _ _ ?_
        simp (decide := true) (maxSteps := 4000000) only [go_sem, Nat.reduceAdd, Nat.reduceSub, Nat.reduceMul, Nat.reduceDiv, Nat.reduceMod, Nat.reduceLT, Nat.reduceLeDiff, Nat.reduceEqDiff, Nat.reduceBEq, Nat.reduceBNe, Nat.reduceGT, Int.reduceAdd, Int.reduceSub, Int.reduceMul, Int.reduceNeg, Int.reduceLT, Int.reduceLE, Int.reduceEq, Int.reduceNe, Int.reduceBEq, Int.reduceBNe, Int.reduceToNat, Int.reduceGT, Int.reduceGE, ↓reduceIte, decide_true, decide_false, eq_self, Nat.mul_one, Nat.zero_mul, Nat.one_mul, Int.le_refl, Nat.le_refl, Int.cast_ofNat_Int, c2]
    · simp (decide := true) (maxSteps := 4000000) only [go_sem, Nat.reduceAdd, Nat.reduceSub, Nat.reduceMul, Nat.reduceDiv, Nat.reduceMod, Nat.reduceLT, Nat.reduceLeDiff, Nat.reduceEqDiff, Nat.reduceBEq, Nat.reduceBNe, Nat.reduceGT, Int.reduceAdd, Int.reduceSub, Int.reduceMul, Int.reduceNeg, Int.reduceLT, Int.reduceLE, Int.reduceEq, Int.reduceNe, Int.reduceBEq, Int.reduceBNe, Int.reduceToNat, Int.reduceGT, Int.reduceGE, ↓reduceIte, decide_true, decide_false, eq_self, Nat.mul_one, Nat.zero_mul, Nat.one_mul, Int.le_refl, Nat.le_refl, Int.cast_ofNat_Int, Try.f86, Sx.t, Sx.cs, rT, rS, unS_eq, lT, lS, e0, hv, b]
      refine pwpC_loopU (A := { k : Nat // k ≤ l.length }) [2, 4, 5, 7, 22, 23] (fun k => [(24, .t (.int .i64 k.1)), (8, .t (.bool (trTo x l k.1)))]) (fun _ => []) (fun k => l.length - k.1) ⟨0, by omega⟩ (by decide) (fun _ => by rfl) ?_ fun Q1 hQ1 ⟨k, hk⟩ I1 hI1 => ?_
      · simp (decide := true) (maxSteps := 4000000) only [go_sem, Nat.reduceAdd, Nat.reduceSub, Nat.reduceMul, Nat.reduceDiv, Nat.reduceMod, Nat.reduceLT, Nat.reduceLeDiff, Nat.reduceEqDiff, Nat.reduceBEq, Nat.reduceBNe, Nat.reduceGT, Int.reduceAdd, Int.reduceSub, Int.reduceMul, Int.reduceNeg, Int.reduceLT, Int.reduceLE, Int.reduceEq, Int.reduceNe, Int.reduceBEq, Int.reduceBNe, Int.reduceToNat, Int.reduceGT, Int.reduceGE, ↓reduceIte, decide_true, decide_false, eq_self, Nat.mul_one, Nat.zero_mul, Nat.one_mul, Int.le_refl, Nat.le_refl, Int.cast_ofNat_Int, hcase]
      · by_cases hlt : (k : Int) < l.length
        · obtain ⟨p, hp⟩ := get_lt hlt
          have hd := flat_at Tr.cs (n := 3) (fun _ => rfl) hp
          have hc1 : IntKind.i64.wrap (k + 1) = ((k + 1 : Nat) : Int) := by rw [wrap_in (by omega) (by omega)]; omega
          have hst := h.st
          have hne : ¬ x.step = 0 := by omega
          have htb := tmod_b p.a (show 0 < x.step by omega)
          have w1 : IntKind.i64.wrap (p.a.tmod x.step) = p.a.tmod x.step := wrap_in (by omega) (by omega)
          have htm := tmod0 p.a x.step
          have hnx := trTo_succ (x := x) hp
          obtain ⟨B, hB⟩ : ∃ B, trTo x l k = B := ⟨_, rfl⟩
          rw [hB] at hnx
          simp (decide := true) (maxSteps := 4000000) only [go_sem, Nat.reduceAdd, Nat.reduceSub, Nat.reduceMul, Nat.reduceDiv, Nat.reduceMod, Nat.reduceLT, Nat.reduceLeDiff, Nat.reduceEqDiff, Nat.reduceBEq, Nat.reduceBNe, Nat.reduceGT, Int.reduceAdd, Int.reduceSub, Int.reduceMul, Int.reduceNeg, Int.reduceLT, Int.reduceLE, Int.reduceEq, Int.reduceNe, Int.reduceBEq, Int.reduceBNe, Int.reduceToNat, Int.reduceGT, Int.reduceGE, ↓reduceIte, decide_true, decide_false, eq_self, Nat.mul_one, Nat.zero_mul, Nat.one_mul, Int.le_refl, Nat.le_refl, Int.cast_ofNat_Int, hlt, hd, Tr.cs, Sx.cs, hB, rS, unS_eq, e0, hv, hne, w1, htm]
          refine hI1 _ ⟨k + 1, by omega⟩ (by simp only; omega) ?_
          simp (decide := true) (maxSteps := 4000000) only [go_sem, Nat.reduceAdd, Nat.reduceSub, Nat.reduceMul, Nat.reduceDiv, Nat.reduceMod, Nat.reduceLT, Nat.reduceLeDiff, Nat.reduceEqDiff, Nat.reduceBEq, Nat.reduceBNe, Nat.reduceGT, Int.reduceAdd, Int.reduceSub, Int.reduceMul, Int.reduceNeg, Int.reduceLT, Int.reduceLE, Int.reduceEq, Int.reduceNe, Int.reduceBEq, Int.reduceBNe, Int.reduceToNat, Int.reduceGT, Int.reduceGE, ↓reduceIte, decide_true, decide_false, eq_self, Nat.mul_one, Nat.zero_mul, Nat.one_mul, Int.le_refl, Nat.le_refl, Int.cast_ofNat_Int, hc1, hnx, and4]
        · have hke : k = l.length := by omega
          subst hke
          simp (decide := true) (maxSteps := 4000000) only [go_sem, Nat.reduceAdd, Nat.reduceSub, Nat.reduceMul, Nat.reduceDiv, Nat.reduceMod, Nat.reduceLT, Nat.reduceLeDiff, Nat.reduceEqDiff, Nat.reduceBEq, Nat.reduceBNe, Nat.reduceGT, Int.reduceAdd, Int.reduceSub, Int.reduceMul, Int.reduceNeg, Int.reduceLT, Int.reduceLE, Int.reduceEq, Int.reduceNe, Int.reduceBEq, Int.reduceBNe, Int.reduceToNat, Int.reduceGT, Int.reduceGE, ↓reduceIte, decide_true, decide_false, eq_self, Nat.mul_one, Nat.zero_mul, Nat.one_mul, Int.le_refl, Nat.le_refl, Int.cast_ofNat_Int, hlt]
          refine hQ1 _ _ ?_
          cases hsu : trsOk x l with
          | false => simp (decide := true) (maxSteps := 4000000) only [go_sem, Nat.reduceAdd, Nat.reduceSub, Nat.reduceMul, Nat.reduceDiv, Nat.reduceMod, Nat.reduceLT, Nat.reduceLeDiff, Nat.reduceEqDiff, Nat.reduceBEq, Nat.reduceBNe, Nat.reduceGT, Int.reduceAdd, Int.reduceSub, Int.reduceMul, Int.reduceNeg, Int.reduceLT, Int.reduceLE, Int.reduceEq, Int.reduceNe, Int.reduceBEq, Int.reduceBNe, Int.reduceToNat, Int.reduceGT, Int.reduceGE, ↓reduceIte, decide_true, decide_false, eq_self, Nat.mul_one, Nat.zero_mul, Nat.one_mul, Int.le_refl, Nat.le_refl, Int.cast_ofNat_Int, hend, hsu, Sx.cs]
          | true => simp (decide := true) (maxSteps := 4000000) only [go_sem, Nat.reduceAdd, Nat.reduceSub, Nat.reduceMul, Nat.reduceDiv, Nat.reduceMod, Nat.reduceLT, Nat.reduceLeDiff, Nat.reduceEqDiff, Nat.reduceBEq, Nat.reduceBNe, Nat.reduceGT, Int.reduceAdd, Int.reduceSub, Int.reduceMul, Int.reduceNeg, Int.reduceLT, Int.reduceLE, Int.reduceEq, Int.reduceNe, Int.reduceBEq, Int.reduceBNe, Int.reduceToNat, Int.reduceGT, Int.reduceGE, ↓reduceIte, decide_true, decide_false, eq_self, Nat.mul_one, Nat.zero_mul, Nat.one_mul, Int.le_refl, Nat.le_refl, Int.cast_ofNat_Int, hend, hsu, Sx.cs]
end Go.Proofs.Ytadkjjnnnkfalaa.Sx

/- Part Sk. -/
namespace Go.Proofs.Ytadkjjnnnkfalaa.Sx
end Go.Proofs.Ytadkjjnnnkfalaa.Sx
namespace Go.Proofs.Ytadkjjnnnkfalaa.Sx
open Go.RowKit Go.Pm Go.Oc Go.Oh Go.Os
set_option maxRecDepth 100000
set_option linter.unusedVariables false
set_option maxHeartbeats 8000000

noncomputable def spKa : Pm.Spec := { noSpec with mu := fun t => t == 23 }
@[go_sem] theorem spKa_p (f : FuncId) (xs : List TV) : spKa.p f xs = Pm.Spec.p ({ noSpec with mu := fun t => t == 23 }) f xs := rfl
@[go_sem] theorem spKa_h (f : FuncId) (ps : List PV) (hl : List PO) : spKa.h f ps hl = Pm.Spec.h ({ noSpec with mu := fun t => t == 23 }) f ps hl := rfl
@[go_sem] theorem spKa_y (Y : Pm.YS) (f : FuncId) (ps : List PV) (hl : List PO) : spKa.y Y f ps hl = Pm.Spec.y ({ noSpec with mu := fun t => t == 23 }) Y f ps hl := rfl
@[go_sem] theorem spKa_fz (f : FuncId) : spKa.fz f = Pm.Spec.fz ({ noSpec with mu := fun t => t == 23 }) f := rfl
@[go_sem] theorem spKa_fr (f : FuncId) : spKa.fr f = Pm.Spec.fr ({ noSpec with mu := fun t => t == 23 }) f := rfl
@[go_sem] theorem spKa_yf (f : FuncId) : spKa.yf f = Pm.Spec.yf ({ noSpec with mu := fun t => t == 23 }) f := rfl
@[go_sem] theorem spKa_mu (t : TypeId) : spKa.mu t = Pm.Spec.mu ({ noSpec with mu := fun t => t == 23 }) t := rfl
@[go_sem] theorem spKa_nf (t : TypeId) : spKa.nf t = Pm.Spec.nf ({ noSpec with mu := fun t => t == 23 }) t := rfl
theorem spKa_ok : SpecOk Try.prog spKa := ⟨noSpec_ok.1, noSpec_ok.2⟩
def clV (n : Nat) : PV := .gsl 0 1 2 0 n false
def clO (l : List Span) : List PO := [.grow 1 ((l.flatMap Span.cs).map .t) 29 2]
theorem sClone_c (l : List Span) (f : Bool) (hl : 1 ≤ l.length) (hm : l.length ≤ 12) : HCalls Try.prog 89 [.t (.sl (l.flatMap Span.cs) l.length f)] (getL []) (clV l.length) (getL (clO l)) := by
  have hcl : (List.flatMap Span.cs l).length = l.length * 2 := flat_len Span.cs (n := 2) (fun _ => rfl) l
  have h0 : ¬ l.length = 0 := by omega
  have h1 : l.length * 16 ≤ 140737488355328 := by omega
  refine hcalls_by Try.mixes spKa_ok (fn := Try.f89) Try.func89 rfl (by kernel_rfl) (by show 1 ≤ _; decide) ?_
  simp (decide := true) (maxSteps := 4000000) only [go_sem, Nat.reduceAdd, Nat.reduceSub, Nat.reduceMul, Nat.reduceDiv, Nat.reduceMod, Nat.reduceLT, Nat.reduceLeDiff, Nat.reduceEqDiff, Nat.reduceBEq, Nat.reduceBNe, Nat.reduceGT, Int.reduceAdd, Int.reduceSub, Int.reduceMul, Int.reduceNeg, Int.reduceLT, Int.reduceLE, Int.reduceEq, Int.reduceNe, Int.reduceBEq, Int.reduceBNe, Int.reduceToNat, Int.reduceGT, Int.reduceGE, ↓reduceIte, decide_true, decide_false, eq_self, Nat.mul_one, Nat.zero_mul, Nat.one_mul, Int.le_refl, Nat.le_refl, Int.cast_ofNat_Int, Try.f89, clV, clO, hcl, h0, h1]
  exact ⟨_, rfl, rfl⟩
noncomputable def sxClone : List PV → List PO → Option (PV × List PO)
  | [.t (.sl cs n f)], [] => match unS cs with
    | some l => if 1 ≤ l.length ∧ l.length ≤ 12 ∧ n = l.length then some (clV l.length, clO l) else none
    | none => none
  | _, _ => none
theorem sxClone_ok : ∀ xs hl r hl', sxClone xs hl = some (r, hl') → HCalls Try.prog 89 xs (getL hl) r (getL hl') := by
  intro xs hl r hl' h
  unfold sxClone at h
  split at h
  · rename_i cs n f
    split at h
    · rename_i l hl
      split at h
      · rename_i hc
        simp only [Option.some.injEq, Prod.mk.injEq] at h
        obtain ⟨rfl, rfl⟩ := h
        obtain ⟨h1, h2, rfl⟩ := hc
        rw [unS_some hl]
        exact sClone_c l f h1 h2
      · cases h
    · cases h
  · cases h
attribute [go_sem] sxClone
noncomputable def spKb : Pm.Spec := { noSpec with fz := fun _ => true }
@[go_sem] theorem spKb_p (f : FuncId) (xs : List TV) : spKb.p f xs = Pm.Spec.p ({ noSpec with fz := fun _ => true }) f xs := rfl
@[go_sem] theorem spKb_h (f : FuncId) (ps : List PV) (hl : List PO) : spKb.h f ps hl = Pm.Spec.h ({ noSpec with fz := fun _ => true }) f ps hl := rfl
@[go_sem] theorem spKb_y (Y : Pm.YS) (f : FuncId) (ps : List PV) (hl : List PO) : spKb.y Y f ps hl = Pm.Spec.y ({ noSpec with fz := fun _ => true }) Y f ps hl := rfl
@[go_sem] theorem spKb_fz (f : FuncId) : spKb.fz f = Pm.Spec.fz ({ noSpec with fz := fun _ => true }) f := rfl
@[go_sem] theorem spKb_fr (f : FuncId) : spKb.fr f = Pm.Spec.fr ({ noSpec with fz := fun _ => true }) f := rfl
@[go_sem] theorem spKb_yf (f : FuncId) : spKb.yf f = Pm.Spec.yf ({ noSpec with fz := fun _ => true }) f := rfl
@[go_sem] theorem spKb_mu (t : TypeId) : spKb.mu t = Pm.Spec.mu ({ noSpec with fz := fun _ => true }) t := rfl
@[go_sem] theorem spKb_nf (t : TypeId) : spKb.nf t = Pm.Spec.nf ({ noSpec with fz := fun _ => true }) t := rfl
theorem spKb_ok : SpecOk Try.prog spKb := ⟨noSpec_ok.1, noSpec_ok.2⟩
theorem sTables_c (x : Sx) (sT sS : TV) (hT : ∃ cs n f, sT = .sl cs n f) (b0 b1 b2 b3 b4 b5 b6 b7 b8 b9 b10 b11 : Bool) (t : TypeId) (vs : List TV) :
    PCalls Try.prog 87 [x.t sT sS, .agg [.bool b0, .bool b1, .bool b2, .bool b3, .bool b4, .bool b5, .bool b6, .bool b7, .bool b8, .bool b9, .bool b10, .bool b11, .imap t vs]] (.fn 119 [] [.cptr (x.cs sT sS), .cptr [.bool b0, .bool b1, .bool b2, .bool b3, .bool b4, .bool b5, .bool b6, .bool b7, .bool b8, .bool b9, .bool b10, .bool b11, .imap t vs]]) := by
  refine pcalls_by Try.mixes spKb_ok (fn := Try.f87) Try.func87 rfl (by kernel_rfl) (by show 2 ≤ _; decide) ?_
  simp (decide := true) (maxSteps := 4000000) only [go_sem, Nat.reduceAdd, Nat.reduceSub, Nat.reduceMul, Nat.reduceDiv, Nat.reduceMod, Nat.reduceLT, Nat.reduceLeDiff, Nat.reduceEqDiff, Nat.reduceBEq, Nat.reduceBNe, Nat.reduceGT, Int.reduceAdd, Int.reduceSub, Int.reduceMul, Int.reduceNeg, Int.reduceLT, Int.reduceLE, Int.reduceEq, Int.reduceNe, Int.reduceBEq, Int.reduceBNe, Int.reduceToNat, Int.reduceGT, Int.reduceGE, ↓reduceIte, decide_true, decide_false, eq_self, Nat.mul_one, Nat.zero_mul, Nat.one_mul, Int.le_refl, Nat.le_refl, Int.cast_ofNat_Int, Try.f87, Sx.t, Sx.cs]
noncomputable def sxTables : List TV → Option TV
  | [.agg [.int .i64 a0, .sl cs n f, .int .i64 a1, .int .i64 a2, .int .i64 a3, sS], .agg [.bool b0, .bool b1, .bool b2, .bool b3, .bool b4, .bool b5, .bool b6, .bool b7, .bool b8, .bool b9, .bool b10, .bool b11, .imap t vs]] => some (.fn 119 [] [.cptr [.int .i64 a0, .sl cs n f, .int .i64 a1, .int .i64 a2, .int .i64 a3, sS], .cptr [.bool b0, .bool b1, .bool b2, .bool b3, .bool b4, .bool b5, .bool b6, .bool b7, .bool b8, .bool b9, .bool b10, .bool b11, .imap t vs]])
  | _ => none
theorem sxTables_ok : ∀ xs r, sxTables xs = some r → PCalls Try.prog 87 xs r := by
  intro xs r h
  unfold sxTables at h
  split at h
  · cases h; exact sTables_c ⟨_, [], ⟨_, _⟩, _, []⟩ _ _ ⟨_, _, _, rfl⟩ _ _ _ _ _ _ _ _ _ _ _ _ _ _
  · cases h
attribute [go_sem] sxTables
end Go.Proofs.Ytadkjjnnnkfalaa.Sx
