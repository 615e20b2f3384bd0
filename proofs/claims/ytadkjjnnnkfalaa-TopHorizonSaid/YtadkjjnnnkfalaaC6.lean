/- What the claim leans on, text 6. -/
import Derived.Test.YtadkjjnnnkfalaaC5
set_option linter.unusedSimpArgs false
set_option linter.unusedVariables false

/- Part Lop. -/
namespace Go.Oc.Lv
end Go.Oc.Lv
namespace Go.Proofs.Ytadkjjnnnkfalaa.Lv
end Go.Proofs.Ytadkjjnnnkfalaa.Lv
namespace Go.Proofs.Ytadkjjnnnkfalaa.Lv
open Go.RowKit Go.Pm Go.Oc Go.Oc.Lv
set_option maxRecDepth 100000
set_option linter.unusedVariables false
set_option maxHeartbeats 4000000

theorem can_no {v : Vial} {l : List Rd} {tv tz tt : Int} (h : (canP v l tv tz tt).2 ≠ 0) : (canP v l tv tz tt).1 = false := by
  unfold canP at h ⊢
  split <;> rename_i h1
  · rw [if_pos h1] at h
    split <;> rename_i h2
    · rw [if_pos h2] at h; exact absurd rfl h
    · rfl
  · rfl
theorem tilt_e (v : Vial) (l : List Rd) : (tiltR v l).e = 0 ∨ (tiltR v l).tilt = ⟨0, 0⟩ ∧ (tiltR v l).zero = ⟨0, 0⟩ := by
  unfold tiltR
  split
  · split
    · exact .inl rfl
    · exact .inr ⟨rfl, rfl⟩
  · exact .inr ⟨rfl, rfl⟩
/-- What Can and Tilt hand back together. -/
theorem can_tilt (v : Vial) (l : List Rd) (tv tz tt : Int) :
    ((canP v l tv tz tt).2 ≠ 0 ∧ (canP v l tv tz tt).1 = false ∧ ((tiltR v l).e = (canP v l tv tz tt).2 ∨ (canP v l tv tz tt).2 = 32)) ∨
    ((canP v l tv tz tt).2 = 0 ∧ (tiltR v l).e = 33 ∧ (canP v l tv tz tt).1 = false ∧ (tiltR v l).tilt = ⟨0, 0⟩ ∧ (tiltR v l).zero = ⟨0, 0⟩) ∨
    ((canP v l tv tz tt).2 = 0 ∧ (tiltR v l).e = 0 ∧ ((canP v l tv tz tt).1 = true → ((tiltR v l).tilt.lo ≤ tt ∧ tt ≤ (tiltR v l).tilt.hi) ∧ (tiltR v l).zero.lo ≤ tz ∧ tz ≤ (tiltR v l).zero.hi)) := by
  unfold canP tiltR
  by_cases hk : asked v l = 0
  · obtain ⟨hv, hr⟩ := asked_zero hk
    have hm := mksOk_mid hv hr
    have h8 := rdsOk_len hr
    rw [if_pos hk, if_pos hk]
    by_cases h1 : inB tv v.v0 v.v1 = true ∧ inB tz v.z0 v.z1 = true
    · rw [if_pos h1]
      have hb := fun hc => bubble hv hm (by rw [List.length_map]; omega) (inB_iff.1 h1.1).1 (inB_iff.1 h1.1).2 (inB_iff.1 h1.2).1 (inB_iff.1 h1.2).2 (tt := tt) hc
      cases hi : (tilts v (l.map mid)).is with
      | false =>
        refine .inr (.inl ⟨rfl, rfl, ?_, rfl, rfl⟩)
        cases hc : canB v (l.map mid) tv tz tt with
        | false => rfl
        | true => rw [(hb hc).1] at hi; cases hi
      | true => exact .inr (.inr ⟨rfl, rfl, fun hc => ⟨⟨(hb hc).2.1, (hb hc).2.2.1⟩, (hb hc).2.2.2⟩⟩)
    · rw [if_neg h1]
      exact .inl ⟨by simp, rfl, .inr rfl⟩
  · rw [if_neg hk, if_neg hk]
    exact .inl ⟨hk, rfl, .inl rfl⟩
end Go.Proofs.Ytadkjjnnnkfalaa.Lv

/- Part Lq. -/
namespace Go.Oc.Lv
end Go.Oc.Lv
namespace Go.Proofs.Ytadkjjnnnkfalaa.Lv
end Go.Proofs.Ytadkjjnnnkfalaa.Lv
namespace Go.Oc.Lv
open Go Go.Pm

theorem tiltStep_bound {v : Vial} (hv : v.ok = true) {x : TZ} {y : Int × Span} (hx : -5000000 ≤ x.tilt.lo ∧ x.tilt.lo ≤ 5000000 ∧ -5000000 ≤ x.tilt.hi ∧ x.tilt.hi ≤ 5000000) (h1 : -10000 ≤ y.2.lo ∧ y.2.lo ≤ 10000) (h2 : -10000 ≤ y.2.hi ∧ y.2.hi ≤ 10000) :
    -5000000 ≤ (tiltStep v x y).tilt.lo ∧ (tiltStep v x y).tilt.lo ≤ 5000000 ∧ -5000000 ≤ (tiltStep v x y).tilt.hi ∧ (tiltStep v x y).tilt.hi ≤ 5000000 := by
  have hv' := Vial.ok_iff.1 hv
  have p1 := mulB (a := y.2.lo) (b := v.v0) (by omega) (by omega)
  have p2 := mulB (a := y.2.lo) (b := v.v1) (by omega) (by omega)
  have p3 := mulB (a := y.2.hi) (b := v.v0) (by omega) (by omega)
  have p4 := mulB (a := y.2.hi) (b := v.v1) (by omega) (by omega)
  unfold tiltStep leastP mostP
  split <;> simp only <;> omega
theorem tiltsOf_bound {v : Vial} (hv : v.ok = true) : ∀ {ys : List (Int × Span)} {x : TZ}, (-5000000 ≤ x.tilt.lo ∧ x.tilt.lo ≤ 5000000 ∧ -5000000 ≤ x.tilt.hi ∧ x.tilt.hi ≤ 5000000) → (∀ y ∈ ys, (-10000 ≤ y.2.lo ∧ y.2.lo ≤ 10000) ∧ (-10000 ≤ y.2.hi ∧ y.2.hi ≤ 10000)) →
    -5000000 ≤ (ys.foldl (tiltStep v) x).tilt.lo ∧ (ys.foldl (tiltStep v) x).tilt.lo ≤ 5000000 ∧ -5000000 ≤ (ys.foldl (tiltStep v) x).tilt.hi ∧ (ys.foldl (tiltStep v) x).tilt.hi ≤ 5000000
  | [], x, h, _ => h
  | y :: ys, x, h, hy => tiltsOf_bound hv (ys := ys) (x := tiltStep v x y) (tiltStep_bound hv h (hy y List.mem_cons_self).1 (hy y List.mem_cons_self).2) fun z hz => hy z (List.mem_cons_of_mem _ hz)
theorem zerosOf_mem {v : Vial} {l : List Mk} {y : Int × Span} (h : y ∈ zerosOf v l (allZ v)) : y.2 = withinS v.wr l y.1 ∧ y.2.lo ≤ y.2.hi ∧ v.z0 ≤ y.1 ∧ y.1 ≤ v.z1 := by
  unfold zerosOf allZ range at h
  simp only [List.mem_filterMap, List.mem_map, List.mem_range] at h
  obtain ⟨z, ⟨k, hk, rfl⟩, h⟩ := h
  split at h
  · rename_i hle; cases h; exact ⟨rfl, hle, by simp only; omega, by simp only; omega⟩
  · cases h
theorem tilts_bound {v : Vial} {l : List Mk} (hv : v.ok = true) (hm : mksOk l = true) : -5000000 ≤ (tilts v l).tilt.lo ∧ (tilts v l).tilt.lo ≤ 5000000 ∧ -5000000 ≤ (tilts v l).tilt.hi ∧ (tilts v l).tilt.hi ≤ 5000000 := by
  have hv' := Vial.ok_iff.1 hv
  refine tiltsOf_bound hv (by simp) fun y hy => ?_
  obtain ⟨h1, h2, h3, h4⟩ := zerosOf_mem hy
  have hb := withinS_bound (w := v.wr) (z := y.1) (by omega) (by omega) (l := l) (s := ⟨-10000, 10000⟩) hm (by simp)
  have hwi : withinS v.wr l y.1 = l.foldl (inS v.wr y.1) ⟨-10000, 10000⟩ := rfl
  rw [← hwi, ← h1] at hb
  omega
theorem tiltStep_is (v : Vial) (x : TZ) (y : Int × Span) : (tiltStep v x y).is = true := by unfold tiltStep; split <;> rfl
theorem fold_is (v : Vial) : ∀ (ys : List (Int × Span)) (x : TZ), (ys.foldl (tiltStep v) x).is = (x.is || !ys.isEmpty)
  | [], x => by simp
  | y :: ys, x => by rw [List.foldl_cons, fold_is v ys]; simp [tiltStep_is]
theorem fold_le2 {v : Vial} (hv : v.ok = true) : ∀ (ys : List (Int × Span)) (x : TZ), x.is = true → x.tilt.lo ≤ x.tilt.hi → (∀ y ∈ ys, y.2.lo ≤ y.2.hi) → (ys.foldl (tiltStep v) x).tilt.lo ≤ (ys.foldl (tiltStep v) x).tilt.hi
  | [], x, _, h, _ => h
  | y :: ys, x, hi, h, hy => by
    refine fold_le2 hv ys _ (tiltStep_is v x y) ?_ fun z hz => hy z (List.mem_cons_of_mem _ hz)
    unfold tiltStep
    rw [if_pos hi]
    simp only; omega
theorem tilts_le {v : Vial} {l : List Mk} (hv : v.ok = true) (h : (tilts v l).is = true) : (tilts v l).tilt.lo ≤ (tilts v l).tilt.hi := by
  unfold tilts tiltsOf at *
  have hz : ∀ y ∈ zerosOf v l (allZ v), y.2.lo ≤ y.2.hi := fun y hy => (zerosOf_mem hy).2.1
  generalize zerosOf v l (allZ v) = ys at *
  cases ys with
  | nil => simp at h
  | cons y ys =>
    rw [List.foldl_cons]
    refine fold_le2 hv ys _ (tiltStep_is _ _ _) ?_ fun z hz' => hz z (List.mem_cons_of_mem _ hz')
    unfold tiltStep
    simp only [Bool.false_eq_true, if_false]
    exact least_most hv (hz y List.mem_cons_self)
theorem tilts_no {v : Vial} {l : List Mk} (h : (tilts v l).is = false) : tilts v l = ⟨⟨0, 0⟩, ⟨0, 0⟩, false⟩ := by
  unfold tilts tiltsOf at *
  rw [fold_is] at h
  simp only [Bool.false_or, Bool.not_eq_false', List.isEmpty_iff] at h
  rw [h]; rfl

/-- How wide a tilt is. -/
def wideT (x : TZ) : Int := x.tilt.hi - x.tilt.lo
def gainStep (v : Vial) (l : List Mk) (tu : Bool) (g : Option Int) (a : Int) : Option Int :=
  if (tilts v (l ++ [⟨a, tu⟩])).is then some (match g with | none => wideT (tilts v (l ++ [⟨a, tu⟩])) | some n => max n (wideT (tilts v (l ++ [⟨a, tu⟩])))) else g
/-- The gain behind so many middles. -/
def gainTo (v : Vial) (l : List Mk) (tu : Bool) (k : Nat) : Option Int := (range 0 k).foldl (gainStep v l tu) none
def gainOf (v : Vial) (l : List Mk) (tu : Bool) : Option Int := gainTo v l tu (2 * v.marks + 1).toNat
theorem gainTo_succ (v : Vial) (l : List Mk) (tu : Bool) (k : Nat) : gainTo v l tu (k + 1) = gainStep v l tu (gainTo v l tu k) k := by
  unfold gainTo; rw [range_succ, List.foldl_append]; simp
/-- What Next hands back. -/
def nextP (v : Vial) (l : List Rd) : Bool × Int × Int :=
  if asked v l = 0 then
    if l.length = 8 then (false, 0, 6)
    else if (tilts v (l.map mid)).is then
      (match gainOf v (l.map mid) false, gainOf v (l.map mid) true with
        | none, none => (false, 0, 0)
        | some d, none => (false, d, 0)
        | none, some t => (true, t, 0)
        | some d, some t => if t < d then (true, t, 0) else (false, d, 0))
    else (false, 0, 33)
  else (false, 0, asked v l)

def faultStep (v : Vial) (m : Int) (a : Int) : Int := if inB a v.l1 (2 * v.marks - v.l1) && (tilts v [⟨a, false⟩]).is then max m (wideT (tilts v [⟨a, false⟩])) else m
def faultTo (v : Vial) (k : Nat) : Int := (range 0 k).foldl (faultStep v) 0
def faultOf (v : Vial) : Int := faultTo v (2 * v.marks + 1).toNat
theorem faultTo_succ (v : Vial) (k : Nat) : faultTo v (k + 1) = faultStep v (faultTo v k) k := by
  unfold faultTo; rw [range_succ, List.foldl_append]; simp
theorem faultTo_bound {v : Vial} (hv : v.ok = true) : ∀ k : Nat, k ≤ 401 → 0 ≤ faultTo v k ∧ faultTo v k ≤ 10000000
  | 0, _ => by simp [faultTo, range]
  | k + 1, h => by
    have ih := faultTo_bound hv k (by omega)
    rw [faultTo_succ]
    unfold faultStep
    split
    · have := tilts_bound (l := [⟨k, false⟩]) hv (by simp [mksOk, inB]; omega)
      unfold wideT; omega
    · exact ih
/-- Does a vial do for a wish? -/
def doesP (v : Vial) (rg fl : Int) : Bool := decide (min (v.z0 - v.l1) (2 * v.marks - v.l1 - v.z1) ≥ 0) && decide (rg ≤ v.v0 * min (v.z0 - v.l1) (2 * v.marks - v.l1 - v.z1)) && decide (faultOf v ≤ fl)
end Go.Oc.Lv

/- Part Mbp. -/
namespace Go.Oc.Lv
end Go.Oc.Lv
namespace Go.Proofs.Ytadkjjnnnkfalaa.Lv
end Go.Proofs.Ytadkjjnnnkfalaa.Lv
namespace Go.Oc.Lv
open Go Go.Pm Go.Proofs.Ytadkjjnnnkfalaa.Lv
theorem up_le {a w k : Int} (hw : 0 < w) : -((-a) / w) ≤ k ↔ a ≤ k * w := by
  have h := Int.le_ediv_iff_mul_le (a := -k) (b := -a) (c := w) hw
  rw [Int.neg_mul] at h
  omega
theorem le_down {a w k : Int} (hw : 0 < w) : k ≤ a / w ↔ k * w ≤ a := Int.le_ediv_iff_mul_le hw
/-- What Clicks hands back: the error; or clicks that do, the fewest ones. -/
theorem clicks_law (t : Span) (w b : Int) :
    (clicksP t w b = (0, 7)) ∨
    ((-1000000 ≤ t.lo ∧ t.lo ≤ t.hi ∧ t.hi ≤ 1000000) ∧ (1 ≤ w ∧ w ≤ 100) ∧ (0 ≤ b ∧ b ≤ 1000000) ∧
      ((clicksP t w b = (0, 4) ∧ ∀ k : Int, ¬ (-b ≤ t.lo + k * w ∧ t.hi + k * w ≤ b)) ∨
       ((clicksP t w b).2 = 0 ∧ (-b ≤ t.lo + (clicksP t w b).1 * w ∧ t.hi + (clicksP t w b).1 * w ≤ b) ∧
        ∀ k : Int, (-b ≤ t.lo + k * w ∧ t.hi + k * w ≤ b) → max k (-k) > max (clicksP t w b).1 (-(clicksP t w b).1) ∨ max k (-k) = max (clicksP t w b).1 (-(clicksP t w b).1) ∧ k ≤ (clicksP t w b).1))) := by
  unfold clicksP
  split
  · rename_i hc
    obtain ⟨h1, h2, h3⟩ := hc
    rw [inB_iff] at h2 h3
    simp only [spannedB, Bool.and_eq_true, decide_eq_true_eq] at h1
    have hw : 0 < w := by omega
    have iL : ∀ k : Int, -((-(-b - t.lo)) / w) ≤ k ↔ -b - t.lo ≤ k * w := fun k => up_le hw
    have iM : ∀ k : Int, k ≤ (b - t.hi) / w ↔ k * w ≤ b - t.hi := fun k => le_down hw
    generalize -((-(-b - t.lo)) / w) = L at iL ⊢
    generalize (b - t.hi) / w = M at iM ⊢
    refine .inr ⟨by omega, h2, h3, ?_⟩
    have both : ∀ k : Int, (-b ≤ t.lo + k * w ∧ t.hi + k * w ≤ b) ↔ L ≤ k ∧ k ≤ M := fun k => by
      rw [iL k, iM k]; omega
    split
    · rename_i h
      refine .inl ⟨rfl, fun k hk => ?_⟩
      have := (both k).1 hk; omega
    · rename_i h
      split
      · exact .inr ⟨rfl, (both L).2 (by omega), fun k hk => by have := (both k).1 hk; simp only; omega⟩
      · split
        · exact .inr ⟨rfl, (both M).2 (by omega), fun k hk => by have := (both k).1 hk; simp only; omega⟩
        · exact .inr ⟨rfl, (both 0).2 (by omega), fun k hk => by have := (both k).1 hk; simp only; omega⟩
  · exact .inl rfl
end Go.Oc.Lv

/- Part Sa. -/
namespace Go.Proofs.Ytadkjjnnnkfalaa.Sx
end Go.Proofs.Ytadkjjnnnkfalaa.Sx
namespace Go.Os
open Go Go.Pm Go.Oc Go.Oh

structure Sx where
  step : Int
  tab : List Span
  idx : Span
  wrong : Int
  shade : List Span
def Sx.cs (x : Sx) (sT sS : TV) : List TV := [.int .i64 x.step, sT, .int .i64 x.idx.lo, .int .i64 x.idx.hi, .int .i64 x.wrong, sS]
def Sx.t (x : Sx) (sT sS : TV) : TV := .agg (x.cs sT sS)
def sxOk (x : Sx) : Bool := inB x.step 1 72000 && (inB x.tab.length 2 12 && (x.tab.all (spannedB · (-600) 600) && (decide (x.step * (x.tab.length - 1) ≤ 504000) && (spannedB x.idx (-1800) 1800 && (inB x.wrong 0 60 && (decide ((x.shade.length : Int) ≤ 6) && x.shade.all (spannedB · (-120) 120)))))))
theorem spannedB_iff {s : Span} {a b : Int} : spannedB s a b = true ↔ a ≤ s.lo ∧ s.lo ≤ s.hi ∧ s.hi ≤ b := by simp [spannedB, and_assoc]
structure GoodS (x : Sx) : Prop where
  st : 1 ≤ x.step ∧ x.step ≤ 72000
  len : 2 ≤ x.tab.length ∧ x.tab.length ≤ 12
  tab : ∀ s ∈ x.tab, -600 ≤ s.lo ∧ s.lo ≤ s.hi ∧ s.hi ≤ 600
  long : x.step * (x.tab.length - 1) ≤ 504000
  idx : -1800 ≤ x.idx.lo ∧ x.idx.lo ≤ x.idx.hi ∧ x.idx.hi ≤ 1800
  wr : 0 ≤ x.wrong ∧ x.wrong ≤ 60
  sh : x.shade.length ≤ 6
  shade : ∀ s ∈ x.shade, -120 ≤ s.lo ∧ s.lo ≤ s.hi ∧ s.hi ≤ 120
theorem sxOk_iff {x : Sx} : sxOk x = true ↔ GoodS x := by
  unfold sxOk
  simp only [Bool.and_eq_true, inB_iff, decide_eq_true_eq, List.all_eq_true, spannedB_iff]
  constructor
  · rintro ⟨a, b, c, d, e, f, g, h⟩; exact ⟨a, ⟨by omega, by omega⟩, c, d, e, f, by omega, h⟩
  · rintro ⟨a, b, c, d, e, f, g, h⟩; exact ⟨a, ⟨by omega, by omega⟩, c, d, e, f, by omega, h⟩
/-- The span at a place. -/
def atS (l : List Span) (k : Nat) : Span := l.getD k ⟨0, 0⟩
theorem atS_eq {l : List Span} {k : Nat} {x : Span} (h : l[k]? = some x) : atS l k = x := by
  unfold atS; rw [List.getD_eq_getElem?_getD, h]; rfl
/-- Between what the correction at an angle lies. -/
def corr (step : Int) (l : List Span) (at' : Int) : Span :=
  let k := (at' / step).toNat; let d := at' % step
  if d = 0 then atS l k else ⟨((atS l k).lo * (step - d) + (atS l (k + 1)).lo * d) / step, ((atS l k).hi * (step - d) + (atS l (k + 1)).hi * d) / step⟩
def last (x : Sx) : Int := x.step * (x.tab.length - 1)
theorem last_b {x : Sx} (h : GoodS x) : 1 ≤ last x ∧ last x ≤ 504000 := by
  refine ⟨?_, h.long⟩
  have h1 := h.len; have h2 := h.st
  have := Int.mul_le_mul h2.1 (show (1 : Int) ≤ (x.tab.length : Int) - 1 by omega) (by omega) (by omega)
  unfold last; omega
def isRd (x : Sx) (at' sh : Int) : Bool := inB at' 0 (last x) && inB sh 0 (2 ^ x.shade.length - 1)
/-- The place of an angle in the table. -/
structure InTab (step : Int) (n : Nat) (at' : Int) : Prop where
  k0 : 0 ≤ at' / step
  kn : (at' / step).toNat < n
  d0 : 0 ≤ at' % step
  ds : at' % step < step
  kd : at' % step ≠ 0 → (at' / step).toNat + 1 < n
theorem inTab {step : Int} {n : Nat} {at' : Int} (hs : 1 ≤ step) (hn : 1 ≤ n) (h0 : 0 ≤ at') (h1 : at' ≤ step * (n - 1)) : InTab step n at' := by
  have e1 := Int.emod_nonneg at' (show step ≠ 0 by omega)
  have e2 := Int.emod_lt_of_pos at' (show 0 < step by omega)
  have e3 := Int.mul_ediv_add_emod at' step
  have q0 : 0 ≤ at' / step := Int.ediv_nonneg h0 (by omega)
  have q1 : at' / step ≤ (n : Int) - 1 := by
    have := Int.ediv_le_ediv (show 0 < step by omega) h1
    rwa [Int.mul_ediv_cancel_left _ (by omega)] at this
  refine ⟨q0, by omega, e1, e2, fun hd => ?_⟩
  have q2 : at' / step ≠ (n : Int) - 1 := fun e => by
    rw [e] at e3; omega
  omega
theorem mulR {a b m n : Int} (ha : -m ≤ a ∧ a ≤ m) (hb : 0 ≤ b ∧ b ≤ n) (hm : 0 ≤ m) : -(m * n) ≤ a * b ∧ a * b ≤ m * n := by
  have h1 := Int.mul_le_mul_of_nonneg_right ha.2 hb.1
  have h2 := Int.mul_le_mul_of_nonneg_left hb.2 hm
  have h3 := Int.mul_le_mul_of_nonneg_right ha.1 hb.1
  have h4 : -m * b = -(m * b) := Int.neg_mul m b
  omega
/-- A weighted middle lies between. -/
theorem mid_b {a b d s m : Int} (ha : -m ≤ a ∧ a ≤ m) (hb : -m ≤ b ∧ b ≤ m) (hd : 0 ≤ d ∧ d < s) : -m ≤ (a * (s - d) + b * d) / s ∧ (a * (s - d) + b * d) / s ≤ m := by
  have hs : 0 < s := by omega
  have h1 := Int.mul_le_mul_of_nonneg_right ha.1 (show 0 ≤ s - d by omega)
  have h2 := Int.mul_le_mul_of_nonneg_right ha.2 (show 0 ≤ s - d by omega)
  have h3 := Int.mul_le_mul_of_nonneg_right hb.1 hd.1
  have h4 := Int.mul_le_mul_of_nonneg_right hb.2 hd.1
  have e1 : m * (s - d) + m * d = m * s := by rw [← Int.mul_add]; congr 1; omega
  have e2 : -m * (s - d) + -m * d = -m * s := by rw [← Int.mul_add]; congr 1; omega
  constructor
  · rw [Int.le_ediv_iff_mul_le hs]; omega
  · have := Int.ediv_le_ediv hs (show a * (s - d) + b * d ≤ m * s by omega)
    rwa [Int.mul_ediv_cancel _ (by omega)] at this
theorem atS_mem {l : List Span} {k : Nat} (h : k < l.length) : atS l k ∈ l := by
  rw [atS_eq (List.getElem?_eq_getElem h)]; exact List.getElem_mem h
theorem mid_le {a b a' b' d s : Int} (ha : a ≤ a') (hb : b ≤ b') (hd : 0 ≤ d ∧ d < s) : (a * (s - d) + b * d) / s ≤ (a' * (s - d) + b' * d) / s := by
  refine Int.ediv_le_ediv (by omega) ?_
  have h1 := Int.mul_le_mul_of_nonneg_right ha (show 0 ≤ s - d by omega)
  have h2 := Int.mul_le_mul_of_nonneg_right hb hd.1
  omega
theorem corr_b {step : Int} {l : List Span} {at' : Int} (ht : InTab step l.length at') (hl : ∀ s ∈ l, -600 ≤ s.lo ∧ s.lo ≤ s.hi ∧ s.hi ≤ 600) : -600 ≤ (corr step l at').lo ∧ (corr step l at').lo ≤ (corr step l at').hi ∧ (corr step l at').hi ≤ 600 := by
  have h1 := hl _ (atS_mem ht.kn)
  unfold corr
  simp only
  split
  · exact h1
  · rename_i hd
    have h2 := hl _ (atS_mem (ht.kd hd))
    have a := mid_b (a := (atS l (at' / step).toNat).lo) (b := (atS l ((at' / step).toNat + 1)).lo) (m := 600) (by omega) (by omega) ⟨ht.d0, ht.ds⟩
    have b := mid_b (a := (atS l (at' / step).toNat).hi) (b := (atS l ((at' / step).toNat + 1)).hi) (m := 600) (by omega) (by omega) ⟨ht.d0, ht.ds⟩
    exact ⟨a.1, mid_le h1.2.1 h2.2.1 ⟨ht.d0, ht.ds⟩, b.2⟩
def addS (a b : Span) : Span := ⟨a.lo + b.lo, a.hi + b.hi⟩
/-- What is read wrongly, and the shades that are used. -/
def shTo (x : Sx) (set : Nat) (k : Nat) : Span := (List.range k).foldl (fun s i => if set.testBit i then addS s (atS x.shade i) else s) ⟨-x.wrong, x.wrong⟩
def shs (x : Sx) (set : Nat) : Span := shTo x set x.shade.length
theorem shTo_succ (x : Sx) (set k : Nat) : shTo x set (k + 1) = if set.testBit k then addS (shTo x set k) (atS x.shade k) else shTo x set k := by
  unfold shTo; rw [List.range_succ, List.foldl_append]; rfl
theorem shTo_b {x : Sx} (h : GoodS x) (set : Nat) : ∀ k, k ≤ x.shade.length → -60 - 120 * (k : Int) ≤ (shTo x set k).lo ∧ (shTo x set k).lo ≤ (shTo x set k).hi ∧ (shTo x set k).hi ≤ 60 + 120 * (k : Int)
  | 0, _ => by have := h.wr; simp only [shTo, List.range_zero, List.foldl_nil]; omega
  | k + 1, hk => by
    have ih := shTo_b h set k (by omega)
    have hs := h.shade _ (atS_mem (show k < x.shade.length by omega))
    rw [shTo_succ]
    split
    · simp only [addS]; omega
    · omega
theorem shs_b {x : Sx} (h : GoodS x) (set : Nat) : -780 ≤ (shs x set).lo ∧ (shs x set).lo ≤ (shs x set).hi ∧ (shs x set).hi ≤ 780 := by
  have := shTo_b h set x.shade.length (Nat.le_refl _)
  have := h.sh
  unfold shs; omega
/-- Between what the true angle of a reading lies. -/
def readS (x : Sx) (at' : Int) (set : Nat) : Span := addS (addS (addS ⟨at', at'⟩ x.idx) (corr x.step x.tab at')) (shs x set)
/-- What Read returns. -/
def readP (x : Sx) (at' sh : Int) : Span × Int := if sxOk x then (if isRd x at' sh then (readS x at' sh.toNat, 0) else (⟨0, 0⟩, 51)) else (⟨0, 0⟩, 50)
theorem isRd_iff {x : Sx} {at' sh : Int} : isRd x at' sh = true ↔ (0 ≤ at' ∧ at' ≤ last x) ∧ 0 ≤ sh ∧ sh ≤ 2 ^ x.shade.length - 1 := by
  unfold isRd; rw [Bool.and_eq_true, inB_iff, inB_iff]
theorem rd_tab {x : Sx} (h : GoodS x) {at' : Int} (h0 : 0 ≤ at') (h1 : at' ≤ last x) : InTab x.step x.tab.length at' := inTab h.st.1 (by have := h.len; omega) h0 h1
theorem pow_len {n : Nat} (h : n ≤ 6) : (1 : Int) ≤ 2 ^ n ∧ (2 : Int) ^ n ≤ 64 := by
  rcases (show n = 0 ∨ n = 1 ∨ n = 2 ∨ n = 3 ∨ n = 4 ∨ n = 5 ∨ n = 6 by omega) with rfl | rfl | rfl | rfl | rfl | rfl | rfl <;> decide
/-- Shifting and masking, as far as shades go. -/
theorem bit_shade : ∀ s : Nat, s < 64 → ∀ k : Nat, k < 6 → (IntKind.i64.wrap ((BitVec.ofInt IntKind.i64.bits (Int.fdiv (s : Int) (2 ^ (min k IntKind.i64.bits))) &&& BitVec.ofInt IntKind.i64.bits 1).toNat) == 1) = s.testBit k := by decide +kernel
end Go.Os

/- Part Sb. -/
namespace Go.Proofs.Ytadkjjnnnkfalaa.Sx
end Go.Proofs.Ytadkjjnnnkfalaa.Sx
namespace Go.Proofs.Ytadkjjnnnkfalaa.Sx
open Go.RowKit Go.Pm Go.Oc Go.Oh Go.Os
set_option maxRecDepth 100000
set_option linter.unusedVariables false
set_option maxHeartbeats 4000000

theorem sWithin_c (n lo hi : Int) : PCalls Try.prog 83 [.int .i64 n, .int .i64 lo, .int .i64 hi] (.bool (inB n lo hi)) := by
  refine pcalls_by Try.mixes noSpec_ok (fn := Try.f83) Try.func83 rfl (by kernel_rfl) (by show 3 ≤ _; decide) ?_
  cases h1 : decide (lo ≤ n) <;> cases h2 : decide (n ≤ hi) <;> simp (decide := true) (maxSteps := 4000000) only [go_sem, Nat.reduceAdd, Nat.reduceSub, Nat.reduceMul, Nat.reduceDiv, Nat.reduceMod, Nat.reduceLT, Nat.reduceLeDiff, Nat.reduceEqDiff, Nat.reduceBEq, Nat.reduceBNe, Nat.reduceGT, Int.reduceAdd, Int.reduceSub, Int.reduceMul, Int.reduceNeg, Int.reduceLT, Int.reduceLE, Int.reduceEq, Int.reduceNe, Int.reduceBEq, Int.reduceBNe, Int.reduceToNat, Int.reduceGT, Int.reduceGE, ↓reduceIte, decide_true, decide_false, eq_self, Nat.mul_one, Nat.zero_mul, Nat.one_mul, Int.le_refl, Nat.le_refl, Int.cast_ofNat_Int, Try.f83, h1, h2, inB]
noncomputable def sxWithin : List TV → Option TV
  | [.int .i64 n, .int .i64 lo, .int .i64 hi] => some (.bool (inB n lo hi))
  | _ => none
theorem sxWithin_ok : ∀ xs r, sxWithin xs = some r → PCalls Try.prog 83 xs r := by
  intro xs r h
  unfold sxWithin at h
  split at h
  · cases h; exact sWithin_c _ _ _
  · cases h
attribute [go_sem] sxWithin
theorem sSpanned_c (s : Span) (lo hi : Int) : PCalls Try.prog 85 [s.t, .int .i64 lo, .int .i64 hi] (.bool (spannedB s lo hi)) := by
  refine pcalls_by Try.mixes noSpec_ok (fn := Try.f85) Try.func85 rfl (by kernel_rfl) (by show 3 ≤ _; decide) ?_
  cases h1 : decide (lo ≤ s.lo) <;> cases h2 : decide (s.lo ≤ s.hi) <;> cases h3 : decide (s.hi ≤ hi) <;> simp (decide := true) (maxSteps := 4000000) only [go_sem, Nat.reduceAdd, Nat.reduceSub, Nat.reduceMul, Nat.reduceDiv, Nat.reduceMod, Nat.reduceLT, Nat.reduceLeDiff, Nat.reduceEqDiff, Nat.reduceBEq, Nat.reduceBNe, Nat.reduceGT, Int.reduceAdd, Int.reduceSub, Int.reduceMul, Int.reduceNeg, Int.reduceLT, Int.reduceLE, Int.reduceEq, Int.reduceNe, Int.reduceBEq, Int.reduceBNe, Int.reduceToNat, Int.reduceGT, Int.reduceGE, ↓reduceIte, decide_true, decide_false, eq_self, Nat.mul_one, Nat.zero_mul, Nat.one_mul, Int.le_refl, Nat.le_refl, Int.cast_ofNat_Int, Try.f85, h1, h2, h3, spannedB, Span.t, Span.cs]
noncomputable def sxSpanned : List TV → Option TV
  | [.agg [.int .i64 a, .int .i64 b], .int .i64 lo, .int .i64 hi] => some (.bool (spannedB ⟨a, b⟩ lo hi))
  | _ => none
theorem sxSpanned_ok : ∀ xs r, sxSpanned xs = some r → PCalls Try.prog 85 xs r := by
  intro xs r h
  unfold sxSpanned at h
  split at h
  · cases h; exact sSpanned_c ⟨_, _⟩ _ _
  · cases h
attribute [go_sem] sxSpanned
noncomputable def spSa : Pm.Spec := ((noSpec.one 83 sxWithin).one 85 sxSpanned)
@[go_sem] theorem spSa_p (f : FuncId) (xs : List TV) : spSa.p f xs = Pm.Spec.p (((noSpec.one 83 sxWithin).one 85 sxSpanned)) f xs := rfl
@[go_sem] theorem spSa_h (f : FuncId) (ps : List PV) (hl : List PO) : spSa.h f ps hl = Pm.Spec.h (((noSpec.one 83 sxWithin).one 85 sxSpanned)) f ps hl := rfl
@[go_sem] theorem spSa_y (Y : Pm.YS) (f : FuncId) (ps : List PV) (hl : List PO) : spSa.y Y f ps hl = Pm.Spec.y (((noSpec.one 83 sxWithin).one 85 sxSpanned)) Y f ps hl := rfl
@[go_sem] theorem spSa_fz (f : FuncId) : spSa.fz f = Pm.Spec.fz (((noSpec.one 83 sxWithin).one 85 sxSpanned)) f := rfl
@[go_sem] theorem spSa_fr (f : FuncId) : spSa.fr f = Pm.Spec.fr (((noSpec.one 83 sxWithin).one 85 sxSpanned)) f := rfl
@[go_sem] theorem spSa_yf (f : FuncId) : spSa.yf f = Pm.Spec.yf (((noSpec.one 83 sxWithin).one 85 sxSpanned)) f := rfl
@[go_sem] theorem spSa_mu (t : TypeId) : spSa.mu t = Pm.Spec.mu (((noSpec.one 83 sxWithin).one 85 sxSpanned)) t := rfl
@[go_sem] theorem spSa_nf (t : TypeId) : spSa.nf t = Pm.Spec.nf (((noSpec.one 83 sxWithin).one 85 sxSpanned)) t := rfl
theorem spSa_ok : SpecOk Try.prog spSa := Spec.one_ok sxSpanned_ok (Spec.one_ok sxWithin_ok noSpec_ok)

/-- Where the first span is that does not lie within. -/
def idxBad (most : Int) (l : List Span) : Int := match l.findIdx? (fun s => !spannedB s (-most) most) with | some i => (i : Int) | none => -1
theorem idxBad_iff (most : Int) (l : List Span) : decide (idxBad most l ≥ 0) = !(l.all (spannedB · (-most) most)) := by
  unfold idxBad
  cases h : l.findIdx? (fun s => !spannedB s (-most) most) with
  | none =>
    rw [List.findIdx?_eq_none_iff] at h
    have : l.all (spannedB · (-most) most) = true := List.all_eq_true.2 fun s hs => by simpa using h s hs
    rw [this]; rfl
  | some i =>
    obtain ⟨hi, h1, _⟩ := List.findIdx?_eq_some_iff_getElem.1 h
    have : l.all (spannedB · (-most) most) = false := by
      rw [← Bool.not_eq_true, List.all_eq_true]
      intro hall
      rw [hall _ (List.getElem_mem hi)] at h1; cases h1
    rw [this]; simp
theorem sBad_c (s : Span) (most : Int) (h : 0 ≤ most ∧ most ≤ 1000000) : PCalls Try.prog 118 [s.t, .cptr [.int .i64 most]] (.bool (!spannedB s (-most) most)) := by
  have w : IntKind.i64.wrap (0 - most) = -most := by rw [wrap_in (by omega) (by omega)]; omega
  refine pcalls_by Try.mixes spSa_ok (fn := Try.f118) Try.func118 rfl (by kernel_rfl) (by show 2 ≤ _; decide) ?_
  simp (decide := true) (maxSteps := 4000000) only [go_sem, Nat.reduceAdd, Nat.reduceSub, Nat.reduceMul, Nat.reduceDiv, Nat.reduceMod, Nat.reduceLT, Nat.reduceLeDiff, Nat.reduceEqDiff, Nat.reduceBEq, Nat.reduceBNe, Nat.reduceGT, Int.reduceAdd, Int.reduceSub, Int.reduceMul, Int.reduceNeg, Int.reduceLT, Int.reduceLE, Int.reduceEq, Int.reduceNe, Int.reduceBEq, Int.reduceBNe, Int.reduceToNat, Int.reduceGT, Int.reduceGE, ↓reduceIte, decide_true, decide_false, eq_self, Nat.mul_one, Nat.zero_mul, Nat.one_mul, Int.le_refl, Nat.le_refl, Int.cast_ofNat_Int, Try.f118, w, Span.t, Span.cs]
noncomputable def sxBad : List TV → Option TV
  | [.agg [.int .i64 a, .int .i64 b], .cptr [.int .i64 most]] => if 0 ≤ most ∧ most ≤ 1000000 then some (.bool (!spannedB ⟨a, b⟩ (-most) most)) else none
  | _ => none
theorem sxBad_ok : ∀ xs r, sxBad xs = some r → PCalls Try.prog 118 xs r := by
  intro xs r h
  unfold sxBad at h
  split at h
  · split at h
    · rename_i hc; cases h; exact sBad_c ⟨_, _⟩ _ hc
    · cases h
  · cases h
attribute [go_sem] sxBad
noncomputable def spSb : Pm.Spec := spSa.one 118 sxBad
@[go_sem] theorem spSb_p (f : FuncId) (xs : List TV) : spSb.p f xs = Pm.Spec.p (spSa.one 118 sxBad) f xs := rfl
@[go_sem] theorem spSb_h (f : FuncId) (ps : List PV) (hl : List PO) : spSb.h f ps hl = Pm.Spec.h (spSa.one 118 sxBad) f ps hl := rfl
@[go_sem] theorem spSb_y (Y : Pm.YS) (f : FuncId) (ps : List PV) (hl : List PO) : spSb.y Y f ps hl = Pm.Spec.y (spSa.one 118 sxBad) Y f ps hl := rfl
@[go_sem] theorem spSb_fz (f : FuncId) : spSb.fz f = Pm.Spec.fz (spSa.one 118 sxBad) f := rfl
@[go_sem] theorem spSb_fr (f : FuncId) : spSb.fr f = Pm.Spec.fr (spSa.one 118 sxBad) f := rfl
@[go_sem] theorem spSb_yf (f : FuncId) : spSb.yf f = Pm.Spec.yf (spSa.one 118 sxBad) f := rfl
@[go_sem] theorem spSb_mu (t : TypeId) : spSb.mu t = Pm.Spec.mu (spSa.one 118 sxBad) t := rfl
@[go_sem] theorem spSb_nf (t : TypeId) : spSb.nf t = Pm.Spec.nf (spSa.one 118 sxBad) t := rfl
theorem spSb_ok : SpecOk Try.prog spSb := Spec.one_ok sxBad_ok spSa_ok
theorem sIndexFunc_c {l : List Span} {s : TV} (hl : IsRow Span.cs s l) (hll : l.length ≤ 9000000000000) (most : Int) (hm : 0 ≤ most ∧ most ≤ 1000000) : PCalls Try.prog 128 [s, .fn 118 [] [.cptr [.int .i64 most]]] (.int .i64 (idxBad most l)) := by
  refine pcalls_by Try.mixes spSb_ok (fn := Try.f128) Try.func128 rfl (by kernel_rfl) (by show 2 ≤ _; decide) ?_
  rcases hl with ⟨rfl, rfl⟩ | ⟨f, rfl⟩
  · simp (decide := true) (maxSteps := 4000000) only [go_sem, Nat.reduceAdd, Nat.reduceSub, Nat.reduceMul, Nat.reduceDiv, Nat.reduceMod, Nat.reduceLT, Nat.reduceLeDiff, Nat.reduceEqDiff, Nat.reduceBEq, Nat.reduceBNe, Nat.reduceGT, Int.reduceAdd, Int.reduceSub, Int.reduceMul, Int.reduceNeg, Int.reduceLT, Int.reduceLE, Int.reduceEq, Int.reduceNe, Int.reduceBEq, Int.reduceBNe, Int.reduceToNat, Int.reduceGT, Int.reduceGE, ↓reduceIte, decide_true, decide_false, eq_self, Nat.mul_one, Nat.zero_mul, Nat.one_mul, Int.le_refl, Nat.le_refl, Int.cast_ofNat_Int, Try.f128]
    refine pwpC_loopU (A := Unit) [0, 1, 4, 7] (fun _ => [(8, .t (.int .i64 0))]) (fun _ => []) (fun _ => 0) () (by decide) (fun _ => by rfl) ?_ fun Q1 hQ1 _ I1 hI1 => ?_
    · simp (decide := true) (maxSteps := 4000000) only [go_sem, Nat.reduceAdd, Nat.reduceSub, Nat.reduceMul, Nat.reduceDiv, Nat.reduceMod, Nat.reduceLT, Nat.reduceLeDiff, Nat.reduceEqDiff, Nat.reduceBEq, Nat.reduceBNe, Nat.reduceGT, Int.reduceAdd, Int.reduceSub, Int.reduceMul, Int.reduceNeg, Int.reduceLT, Int.reduceLE, Int.reduceEq, Int.reduceNe, Int.reduceBEq, Int.reduceBNe, Int.reduceToNat, Int.reduceGT, Int.reduceGE, ↓reduceIte, decide_true, decide_false, eq_self, Nat.mul_one, Nat.zero_mul, Nat.one_mul, Int.le_refl, Nat.le_refl, Int.cast_ofNat_Int]
    · simp (decide := true) (maxSteps := 4000000) only [go_sem, Nat.reduceAdd, Nat.reduceSub, Nat.reduceMul, Nat.reduceDiv, Nat.reduceMod, Nat.reduceLT, Nat.reduceLeDiff, Nat.reduceEqDiff, Nat.reduceBEq, Nat.reduceBNe, Nat.reduceGT, Int.reduceAdd, Int.reduceSub, Int.reduceMul, Int.reduceNeg, Int.reduceLT, Int.reduceLE, Int.reduceEq, Int.reduceNe, Int.reduceBEq, Int.reduceBNe, Int.reduceToNat, Int.reduceGT, Int.reduceGE, ↓reduceIte, decide_true, decide_false, eq_self, Nat.mul_one, Nat.zero_mul, Nat.one_mul, Int.le_refl, Nat.le_refl, Int.cast_ofNat_Int]
      refine hQ1 _ _ ?_
      simp (decide := true) (maxSteps := 4000000) only [go_sem, Nat.reduceAdd, Nat.reduceSub, Nat.reduceMul, Nat.reduceDiv, Nat.reduceMod, Nat.reduceLT, Nat.reduceLeDiff, Nat.reduceEqDiff, Nat.reduceBEq, Nat.reduceBNe, Nat.reduceGT, Int.reduceAdd, Int.reduceSub, Int.reduceMul, Int.reduceNeg, Int.reduceLT, Int.reduceLE, Int.reduceEq, Int.reduceNe, Int.reduceBEq, Int.reduceBNe, Int.reduceToNat, Int.reduceGT, Int.reduceGE, ↓reduceIte, decide_true, decide_false, eq_self, Nat.mul_one, Nat.zero_mul, Nat.one_mul, Int.le_refl, Nat.le_refl, Int.cast_ofNat_Int]
      first | done | rfl
  · simp (decide := true) (maxSteps := 4000000) only [go_sem, Nat.reduceAdd, Nat.reduceSub, Nat.reduceMul, Nat.reduceDiv, Nat.reduceMod, Nat.reduceLT, Nat.reduceLeDiff, Nat.reduceEqDiff, Nat.reduceBEq, Nat.reduceBNe, Nat.reduceGT, Int.reduceAdd, Int.reduceSub, Int.reduceMul, Int.reduceNeg, Int.reduceLT, Int.reduceLE, Int.reduceEq, Int.reduceNe, Int.reduceBEq, Int.reduceBNe, Int.reduceToNat, Int.reduceGT, Int.reduceGE, ↓reduceIte, decide_true, decide_false, eq_self, Nat.mul_one, Nat.zero_mul, Nat.one_mul, Int.le_refl, Nat.le_refl, Int.cast_ofNat_Int, Try.f128]
    refine pwpC_loopU (A := { k : Nat // k ≤ l.length ∧ ∀ i, i < k → spannedB (atS l i) (-most) most = true }) [0, 1, 4, 7] (fun k => [(8, .t (.int .i64 k.1))]) (fun _ => []) (fun k => l.length - k.1) ⟨0, by omega, by omega⟩ (by decide) (fun _ => by rfl) ?_ fun Q1 hQ1 ⟨k, hk, hno⟩ I1 hI1 => ?_
    · simp (decide := true) (maxSteps := 4000000) only [go_sem, Nat.reduceAdd, Nat.reduceSub, Nat.reduceMul, Nat.reduceDiv, Nat.reduceMod, Nat.reduceLT, Nat.reduceLeDiff, Nat.reduceEqDiff, Nat.reduceBEq, Nat.reduceBNe, Nat.reduceGT, Int.reduceAdd, Int.reduceSub, Int.reduceMul, Int.reduceNeg, Int.reduceLT, Int.reduceLE, Int.reduceEq, Int.reduceNe, Int.reduceBEq, Int.reduceBNe, Int.reduceToNat, Int.reduceGT, Int.reduceGE, ↓reduceIte, decide_true, decide_false, eq_self, Nat.mul_one, Nat.zero_mul, Nat.one_mul, Int.le_refl, Nat.le_refl, Int.cast_ofNat_Int]
    · by_cases hlt : (k : Int) < l.length
      · obtain ⟨x, hx⟩ := get_lt hlt
        have hd := flat_at Span.cs (n := 2) (fun _ => rfl) hx
        have hc1 : IntKind.i64.wrap (k + 1) = ((k + 1 : Nat) : Int) := by rw [wrap_in (by omega) (by omega)]; omega
        have hkl : k < l.length := by omega
        obtain ⟨x0, x1⟩ := x
        cases hb : spannedB ⟨x0, x1⟩ (-most) most with
        | false =>
          have e : idxBad most l = k := by
            unfold idxBad
            have : l.findIdx? (fun s => !spannedB s (-most) most) = some k := List.findIdx?_eq_some_iff_getElem.2 ⟨hkl, by
              rw [List.getElem?_eq_getElem hkl] at hx; rw [Option.some.inj hx, hb]; rfl, fun j hj => by
              have := hno j hj
              rw [atS_eq (List.getElem?_eq_getElem (show j < l.length by omega))] at this
              rw [this]; decide⟩
            rw [this]
          simp (decide := true) (maxSteps := 4000000) only [go_sem, Nat.reduceAdd, Nat.reduceSub, Nat.reduceMul, Nat.reduceDiv, Nat.reduceMod, Nat.reduceLT, Nat.reduceLeDiff, Nat.reduceEqDiff, Nat.reduceBEq, Nat.reduceBNe, Nat.reduceGT, Int.reduceAdd, Int.reduceSub, Int.reduceMul, Int.reduceNeg, Int.reduceLT, Int.reduceLE, Int.reduceEq, Int.reduceNe, Int.reduceBEq, Int.reduceBNe, Int.reduceToNat, Int.reduceGT, Int.reduceGE, ↓reduceIte, decide_true, decide_false, eq_self, Nat.mul_one, Nat.zero_mul, Nat.one_mul, Int.le_refl, Nat.le_refl, Int.cast_ofNat_Int, hlt, hd, hb, hm, Span.cs]
          try (refine hQ1 _ _ ?_)
          try simp (decide := true) (maxSteps := 4000000) only [go_sem, Nat.reduceAdd, Nat.reduceSub, Nat.reduceMul, Nat.reduceDiv, Nat.reduceMod, Nat.reduceLT, Nat.reduceLeDiff, Nat.reduceEqDiff, Nat.reduceBEq, Nat.reduceBNe, Nat.reduceGT, Int.reduceAdd, Int.reduceSub, Int.reduceMul, Int.reduceNeg, Int.reduceLT, Int.reduceLE, Int.reduceEq, Int.reduceNe, Int.reduceBEq, Int.reduceBNe, Int.reduceToNat, Int.reduceGT, Int.reduceGE, ↓reduceIte, decide_true, decide_false, eq_self, Nat.mul_one, Nat.zero_mul, Nat.one_mul, Int.le_refl, Nat.le_refl, Int.cast_ofNat_Int, e]
        | true =>
          simp (decide := true) (maxSteps := 4000000) only [go_sem, Nat.reduceAdd, Nat.reduceSub, Nat.reduceMul, Nat.reduceDiv, Nat.reduceMod, Nat.reduceLT, Nat.reduceLeDiff, Nat.reduceEqDiff, Nat.reduceBEq, Nat.reduceBNe, Nat.reduceGT, Int.reduceAdd, Int.reduceSub, Int.reduceMul, Int.reduceNeg, Int.reduceLT, Int.reduceLE, Int.reduceEq, Int.reduceNe, Int.reduceBEq, Int.reduceBNe, Int.reduceToNat, Int.reduceGT, Int.reduceGE, ↓reduceIte, decide_true, decide_false, eq_self, Nat.mul_one, Nat.zero_mul, Nat.one_mul, Int.le_refl, Nat.le_refl, Int.cast_ofNat_Int, hlt, hd, hb, hm, Span.cs]
          refine hI1 _ ⟨k + 1, by omega, fun i hi => by
            by_cases e : i = k
            · subst e; rw [atS_eq hx]; exact hb
            · exact hno i (by omega)⟩ (by simp only; omega) ?_
          simp (decide := true) (maxSteps := 4000000) only [go_sem, Nat.reduceAdd, Nat.reduceSub, Nat.reduceMul, Nat.reduceDiv, Nat.reduceMod, Nat.reduceLT, Nat.reduceLeDiff, Nat.reduceEqDiff, Nat.reduceBEq, Nat.reduceBNe, Nat.reduceGT, Int.reduceAdd, Int.reduceSub, Int.reduceMul, Int.reduceNeg, Int.reduceLT, Int.reduceLE, Int.reduceEq, Int.reduceNe, Int.reduceBEq, Int.reduceBNe, Int.reduceToNat, Int.reduceGT, Int.reduceGE, ↓reduceIte, decide_true, decide_false, eq_self, Nat.mul_one, Nat.zero_mul, Nat.one_mul, Int.le_refl, Nat.le_refl, Int.cast_ofNat_Int, hc1]
      · have hke : k = l.length := by omega
        subst hke
        have e : idxBad most l = -1 := by
          unfold idxBad
          have : l.findIdx? (fun s => !spannedB s (-most) most) = none := List.findIdx?_eq_none_iff.2 fun s hs => by
            obtain ⟨i, hi, rfl⟩ := List.getElem_of_mem hs
            have := hno i hi
            rw [atS_eq (List.getElem?_eq_getElem hi)] at this
            rw [this]; rfl
          rw [this]
        simp (decide := true) (maxSteps := 4000000) only [go_sem, Nat.reduceAdd, Nat.reduceSub, Nat.reduceMul, Nat.reduceDiv, Nat.reduceMod, Nat.reduceLT, Nat.reduceLeDiff, Nat.reduceEqDiff, Nat.reduceBEq, Nat.reduceBNe, Nat.reduceGT, Int.reduceAdd, Int.reduceSub, Int.reduceMul, Int.reduceNeg, Int.reduceLT, Int.reduceLE, Int.reduceEq, Int.reduceNe, Int.reduceBEq, Int.reduceBNe, Int.reduceToNat, Int.reduceGT, Int.reduceGE, ↓reduceIte, decide_true, decide_false, eq_self, Nat.mul_one, Nat.zero_mul, Nat.one_mul, Int.le_refl, Nat.le_refl, Int.cast_ofNat_Int, hlt]
        refine hQ1 _ _ ?_
        simp (decide := true) (maxSteps := 4000000) only [go_sem, Nat.reduceAdd, Nat.reduceSub, Nat.reduceMul, Nat.reduceDiv, Nat.reduceMod, Nat.reduceLT, Nat.reduceLeDiff, Nat.reduceEqDiff, Nat.reduceBEq, Nat.reduceBNe, Nat.reduceGT, Int.reduceAdd, Int.reduceSub, Int.reduceMul, Int.reduceNeg, Int.reduceLT, Int.reduceLE, Int.reduceEq, Int.reduceNe, Int.reduceBEq, Int.reduceBNe, Int.reduceToNat, Int.reduceGT, Int.reduceGE, ↓reduceIte, decide_true, decide_false, eq_self, Nat.mul_one, Nat.zero_mul, Nat.one_mul, Int.le_refl, Nat.le_refl, Int.cast_ofNat_Int, e]
noncomputable def sxIndexFunc : List TV → Option TV
  | [s, .fn F [] [.cptr [.int .i64 most]]] => match rowL unS s with
    | some l => if l.length ≤ 9000000000000 ∧ F = 118 ∧ 0 ≤ most ∧ most ≤ 1000000 then some (.int .i64 (idxBad most l)) else none
    | none => none
  | _ => none
theorem sxIndexFunc_ok : ∀ xs r, sxIndexFunc xs = some r → PCalls Try.prog 128 xs r := by
  intro xs r h
  unfold sxIndexFunc at h
  split at h
  · split at h
    · rename_i l hl
      have hl := rowL_some (un := unS) unS_nil (@unS_some) hl
      split at h
      · rename_i hc; cases h
        obtain ⟨h1, rfl, h2⟩ := hc
        exact sIndexFunc_c hl h1 _ h2
      · cases h
    · cases h
  · cases h
attribute [go_sem] sxIndexFunc
noncomputable def spSc : Pm.Spec := spSb.one 128 sxIndexFunc
@[go_sem] theorem spSc_p (f : FuncId) (xs : List TV) : spSc.p f xs = Pm.Spec.p (spSb.one 128 sxIndexFunc) f xs := rfl
@[go_sem] theorem spSc_h (f : FuncId) (ps : List PV) (hl : List PO) : spSc.h f ps hl = Pm.Spec.h (spSb.one 128 sxIndexFunc) f ps hl := rfl
@[go_sem] theorem spSc_y (Y : Pm.YS) (f : FuncId) (ps : List PV) (hl : List PO) : spSc.y Y f ps hl = Pm.Spec.y (spSb.one 128 sxIndexFunc) Y f ps hl := rfl
@[go_sem] theorem spSc_fz (f : FuncId) : spSc.fz f = Pm.Spec.fz (spSb.one 128 sxIndexFunc) f := rfl
@[go_sem] theorem spSc_fr (f : FuncId) : spSc.fr f = Pm.Spec.fr (spSb.one 128 sxIndexFunc) f := rfl
@[go_sem] theorem spSc_yf (f : FuncId) : spSc.yf f = Pm.Spec.yf (spSb.one 128 sxIndexFunc) f := rfl
@[go_sem] theorem spSc_mu (t : TypeId) : spSc.mu t = Pm.Spec.mu (spSb.one 128 sxIndexFunc) t := rfl
@[go_sem] theorem spSc_nf (t : TypeId) : spSc.nf t = Pm.Spec.nf (spSb.one 128 sxIndexFunc) t := rfl
theorem spSc_ok : SpecOk Try.prog spSc := Spec.one_ok sxIndexFunc_ok spSb_ok
theorem sContains_c {l : List Span} {s : TV} (hl : IsRow Span.cs s l) (hll : l.length ≤ 9000000000000) (most : Int) (hm : 0 ≤ most ∧ most ≤ 1000000) : PCalls Try.prog 117 [s, .fn 118 [] [.cptr [.int .i64 most]]] (.bool (!(l.all (spannedB · (-most) most)))) := by
  have rI := rowS_is hl
  unfold rowL at rI
  simp only [unS_nil] at rI
  have hb := idxBad_iff most l
  refine pcalls_by Try.mixes spSc_ok (fn := Try.f117) Try.func117 rfl (by kernel_rfl) (by show 2 ≤ _; decide) ?_
  simp (decide := true) (maxSteps := 4000000) only [go_sem, Nat.reduceAdd, Nat.reduceSub, Nat.reduceMul, Nat.reduceDiv, Nat.reduceMod, Nat.reduceLT, Nat.reduceLeDiff, Nat.reduceEqDiff, Nat.reduceBEq, Nat.reduceBNe, Nat.reduceGT, Int.reduceAdd, Int.reduceSub, Int.reduceMul, Int.reduceNeg, Int.reduceLT, Int.reduceLE, Int.reduceEq, Int.reduceNe, Int.reduceBEq, Int.reduceBNe, Int.reduceToNat, Int.reduceGT, Int.reduceGE, ↓reduceIte, decide_true, decide_false, eq_self, Nat.mul_one, Nat.zero_mul, Nat.one_mul, Int.le_refl, Nat.le_refl, Int.cast_ofNat_Int, Try.f117, rI, hll, hb, hm]
noncomputable def sxContains : List TV → Option TV
  | [s, .fn F [] [.cptr [.int .i64 most]]] => match rowL unS s with
    | some l => if l.length ≤ 9000000000000 ∧ F = 118 ∧ 0 ≤ most ∧ most ≤ 1000000 then some (.bool (!(l.all (spannedB · (-most) most)))) else none
    | none => none
  | _ => none
theorem sxContains_ok : ∀ xs r, sxContains xs = some r → PCalls Try.prog 117 xs r := by
  intro xs r h
  unfold sxContains at h
  split at h
  · split at h
    · rename_i l hl
      have hl := rowL_some (un := unS) unS_nil (@unS_some) hl
      split at h
      · rename_i hc; cases h
        obtain ⟨h1, rfl, h2⟩ := hc
        exact sContains_c hl h1 _ h2
      · cases h
    · cases h
  · cases h
attribute [go_sem] sxContains
noncomputable def spSd : Pm.Spec := { spSb.one 117 sxContains with fz := fun _ => true }
@[go_sem] theorem spSd_p (f : FuncId) (xs : List TV) : spSd.p f xs = Pm.Spec.p ({ spSb.one 117 sxContains with fz := fun _ => true }) f xs := rfl
@[go_sem] theorem spSd_h (f : FuncId) (ps : List PV) (hl : List PO) : spSd.h f ps hl = Pm.Spec.h ({ spSb.one 117 sxContains with fz := fun _ => true }) f ps hl := rfl
@[go_sem] theorem spSd_y (Y : Pm.YS) (f : FuncId) (ps : List PV) (hl : List PO) : spSd.y Y f ps hl = Pm.Spec.y ({ spSb.one 117 sxContains with fz := fun _ => true }) Y f ps hl := rfl
@[go_sem] theorem spSd_fz (f : FuncId) : spSd.fz f = Pm.Spec.fz ({ spSb.one 117 sxContains with fz := fun _ => true }) f := rfl
@[go_sem] theorem spSd_fr (f : FuncId) : spSd.fr f = Pm.Spec.fr ({ spSb.one 117 sxContains with fz := fun _ => true }) f := rfl
@[go_sem] theorem spSd_yf (f : FuncId) : spSd.yf f = Pm.Spec.yf ({ spSb.one 117 sxContains with fz := fun _ => true }) f := rfl
@[go_sem] theorem spSd_mu (t : TypeId) : spSd.mu t = Pm.Spec.mu ({ spSb.one 117 sxContains with fz := fun _ => true }) t := rfl
@[go_sem] theorem spSd_nf (t : TypeId) : spSd.nf t = Pm.Spec.nf ({ spSb.one 117 sxContains with fz := fun _ => true }) t := rfl
theorem spSd_ok : SpecOk Try.prog spSd := ⟨(Spec.one_ok sxContains_ok spSb_ok).1, (Spec.one_ok sxContains_ok spSb_ok).2⟩
theorem sAllSpanned_c {l : List Span} {s : TV} (hl : IsRow Span.cs s l) (hll : l.length ≤ 9000000000000) (most : Int) (hm : 0 ≤ most ∧ most ≤ 1000000) : PCalls Try.prog 84 [s, .int .i64 most] (.bool (l.all (spannedB · (-most) most))) := by
  have rI := rowS_is hl
  unfold rowL at rI
  simp only [unS_nil] at rI
  refine pcalls_by Try.mixes spSd_ok (fn := Try.f84) Try.func84 rfl (by kernel_rfl) (by show 2 ≤ _; decide) ?_
  simp (decide := true) (maxSteps := 4000000) only [go_sem, Nat.reduceAdd, Nat.reduceSub, Nat.reduceMul, Nat.reduceDiv, Nat.reduceMod, Nat.reduceLT, Nat.reduceLeDiff, Nat.reduceEqDiff, Nat.reduceBEq, Nat.reduceBNe, Nat.reduceGT, Int.reduceAdd, Int.reduceSub, Int.reduceMul, Int.reduceNeg, Int.reduceLT, Int.reduceLE, Int.reduceEq, Int.reduceNe, Int.reduceBEq, Int.reduceBNe, Int.reduceToNat, Int.reduceGT, Int.reduceGE, ↓reduceIte, decide_true, decide_false, eq_self, Nat.mul_one, Nat.zero_mul, Nat.one_mul, Int.le_refl, Nat.le_refl, Int.cast_ofNat_Int, Try.f84, rI, hll, hm]
noncomputable def sxAllSpanned : List TV → Option TV
  | [s, .int .i64 most] => match rowL unS s with
    | some l => if l.length ≤ 9000000000000 ∧ 0 ≤ most ∧ most ≤ 1000000 then some (.bool (l.all (spannedB · (-most) most))) else none
    | none => none
  | _ => none
theorem sxAllSpanned_ok : ∀ xs r, sxAllSpanned xs = some r → PCalls Try.prog 84 xs r := by
  intro xs r h
  unfold sxAllSpanned at h
  split at h
  · split at h
    · rename_i l hl
      have hl := rowL_some (un := unS) (by first | rfl | exact unS_nil) (@unS_some) hl
      split at h
      · rename_i hc; cases h; exact sAllSpanned_c hl hc.1 _ hc.2
      · cases h
    · cases h
  · cases h
attribute [go_sem] sxAllSpanned
noncomputable def spSe : Pm.Spec := spSa.one 84 sxAllSpanned
@[go_sem] theorem spSe_p (f : FuncId) (xs : List TV) : spSe.p f xs = Pm.Spec.p (spSa.one 84 sxAllSpanned) f xs := rfl
@[go_sem] theorem spSe_h (f : FuncId) (ps : List PV) (hl : List PO) : spSe.h f ps hl = Pm.Spec.h (spSa.one 84 sxAllSpanned) f ps hl := rfl
@[go_sem] theorem spSe_y (Y : Pm.YS) (f : FuncId) (ps : List PV) (hl : List PO) : spSe.y Y f ps hl = Pm.Spec.y (spSa.one 84 sxAllSpanned) Y f ps hl := rfl
@[go_sem] theorem spSe_fz (f : FuncId) : spSe.fz f = Pm.Spec.fz (spSa.one 84 sxAllSpanned) f := rfl
@[go_sem] theorem spSe_fr (f : FuncId) : spSe.fr f = Pm.Spec.fr (spSa.one 84 sxAllSpanned) f := rfl
@[go_sem] theorem spSe_yf (f : FuncId) : spSe.yf f = Pm.Spec.yf (spSa.one 84 sxAllSpanned) f := rfl
@[go_sem] theorem spSe_mu (t : TypeId) : spSe.mu t = Pm.Spec.mu (spSa.one 84 sxAllSpanned) t := rfl
@[go_sem] theorem spSe_nf (t : TypeId) : spSe.nf t = Pm.Spec.nf (spSa.one 84 sxAllSpanned) t := rfl
theorem spSe_ok : SpecOk Try.prog spSe := Spec.one_ok sxAllSpanned_ok spSa_ok

theorem chk8 : ∀ b1 b2 b3 b4 b5 b6 b7 b8 : Bool, (!(b1 && b2 && b3 && b4 && b5) || b1 && b2 && b3 && b4 && b5 && !b6 || !(!(b1 && b2 && b3 && b4 && b5) || b1 && b2 && b3 && b4 && b5 && !b6) && !b7 || !(!(b1 && b2 && b3 && b4 && b5) || b1 && b2 && b3 && b4 && b5 && !b6 || !(!(b1 && b2 && b3 && b4 && b5) || b1 && b2 && b3 && b4 && b5 && !b6) && !b7) && !b8) = !(b1 && (b2 && (b3 && (b4 && (b5 && (b6 && (b7 && b8))))))) := by decide
theorem sCheck_c (x : Sx) {sT sS : TV} (hT : IsRow Span.cs sT x.tab) (hS : IsRow Span.cs sS x.shade) (lT : x.tab.length ≤ 9000000000000) (lS : x.shade.length ≤ 9000000000000) : PCalls Try.prog 43 [x.t sT sS] (.int .i64 (if sxOk x then 0 else 50)) := by
  have rT := rowS_is hT
  have rS := rowS_is hS
  unfold rowL at rT rS
  simp only [unS_nil] at rT rS
  have m1 : (0 : Int) ≤ 600 ∧ (600 : Int) ≤ 1000000 := by decide
  have m2 : (0 : Int) ≤ 120 ∧ (120 : Int) ≤ 1000000 := by decide
  have neg600 : (-(600 : Int)) = -600 := rfl
  have neg120 : (-(120 : Int)) = -120 := rfl
  have hok : sxOk x = (inB x.step 1 72000 && (inB x.tab.length 2 12 && (x.tab.all (spannedB · (-600) 600) && (decide (IntKind.i64.wrap (x.step * IntKind.i64.wrap (x.tab.length - 1)) ≤ 504000) && (spannedB x.idx (-1800) 1800 && (inB x.wrong 0 60 && (decide ((x.shade.length : Int) ≤ 6) && x.shade.all (spannedB · (-120) 120)))))))) := by
    unfold sxOk
    cases h1 : inB x.step 1 72000 with
    | false => rfl
    | true => cases h2 : inB (x.tab.length : Int) 2 12 with
      | false => rfl
      | true =>
        have h1 := inB_iff.1 h1
        have h2 := inB_iff.1 h2
        have hb := mulR (a := x.step) (b := (x.tab.length : Int) - 1) (m := 72000) (n := 11) (by omega) (by omega) (by omega)
        rw [wrap_in (n := (x.tab.length : Int) - 1) (by omega) (by omega), wrap_in (by omega) (by omega)]
  have n6 : decide ((x.shade.length : Int) > 6) = !decide ((x.shade.length : Int) ≤ 6) := by
    by_cases h : (x.shade.length : Int) ≤ 6
    · rw [decide_eq_true h, decide_eq_false (by omega)]; rfl
    · rw [decide_eq_false h, decide_eq_true (by omega)]; rfl
  obtain ⟨step, tab, ⟨i0, i1⟩, wrong, shade⟩ := x
  simp only at *
  refine pcalls_by Try.mixes spSe_ok (fn := Try.f43) Try.func43 rfl (by kernel_rfl) (by show 1 ≤ _; decide) ?_
  rcases hT with ⟨rfl, rfl⟩ | ⟨f, rfl⟩
  · have h2 : inB 0 2 12 = false := rfl
    have h2' : inB ((([] : List Span).length : Nat) : Int) 2 12 = false := rfl
    rw [h2'] at hok
    simp only [Bool.false_and, Bool.and_false] at hok
    rcases hS with ⟨rfl, rfl⟩ | ⟨f', rfl⟩ <;> simp (decide := true) (maxSteps := 4000000) only [go_sem, Nat.reduceAdd, Nat.reduceSub, Nat.reduceMul, Nat.reduceDiv, Nat.reduceMod, Nat.reduceLT, Nat.reduceLeDiff, Nat.reduceEqDiff, Nat.reduceBEq, Nat.reduceBNe, Nat.reduceGT, Int.reduceAdd, Int.reduceSub, Int.reduceMul, Int.reduceNeg, Int.reduceLT, Int.reduceLE, Int.reduceEq, Int.reduceNe, Int.reduceBEq, Int.reduceBNe, Int.reduceToNat, Int.reduceGT, Int.reduceGE, ↓reduceIte, decide_true, decide_false, eq_self, Nat.mul_one, Nat.zero_mul, Nat.one_mul, Int.le_refl, Nat.le_refl, Int.cast_ofNat_Int, Try.f43, Sx.t, Sx.cs, unS_eq, lT, lS, m1, m2, neg600, neg120, h2, hok]
  · obtain ⟨W, hW⟩ : ∃ W, IntKind.i64.wrap (step * IntKind.i64.wrap (tab.length - 1)) = W := ⟨_, rfl⟩
    rw [hW] at hok
    generalize h1 : inB step 1 72000 = b1 at *
    generalize h2 : inB (tab.length : Int) 2 12 = b2 at *
    generalize h3 : (tab.all (spannedB · (-600) 600)) = b3 at *
    generalize h4 : decide (W ≤ 504000) = b4 at *
    generalize h5 : spannedB ⟨i0, i1⟩ (-1800) 1800 = b5 at *
    generalize h6 : inB wrong 0 60 = b6 at *
    generalize h7 : decide ((shade.length : Int) ≤ 6) = b7 at *
    generalize h8 : (shade.all (spannedB · (-120) 120)) = b8 at *
    rw [hok]
    have hc := chk8 b1 b2 b3 b4 b5 b6 b7 b8
    obtain ⟨O, hO⟩ : ∃ O, (b1 && (b2 && (b3 && (b4 && (b5 && (b6 && (b7 && b8))))))) = O := ⟨_, rfl⟩
    rw [hO] at hc ⊢
    rcases hS with ⟨rfl, rfl⟩ | ⟨f', rfl⟩
    · have h7' : b7 = true := h7.symm
      have h8' : b8 = true := h8.symm
      subst h7'; subst h8'
      simp only [Bool.not_true, Bool.and_false, Bool.or_false] at hc
      cases O <;> simp (decide := true) (maxSteps := 4000000) only [go_sem, Nat.reduceAdd, Nat.reduceSub, Nat.reduceMul, Nat.reduceDiv, Nat.reduceMod, Nat.reduceLT, Nat.reduceLeDiff, Nat.reduceEqDiff, Nat.reduceBEq, Nat.reduceBNe, Nat.reduceGT, Int.reduceAdd, Int.reduceSub, Int.reduceMul, Int.reduceNeg, Int.reduceLT, Int.reduceLE, Int.reduceEq, Int.reduceNe, Int.reduceBEq, Int.reduceBNe, Int.reduceToNat, Int.reduceGT, Int.reduceGE, ↓reduceIte, decide_true, decide_false, eq_self, Nat.mul_one, Nat.zero_mul, Nat.one_mul, Int.le_refl, Nat.le_refl, Int.cast_ofNat_Int, Try.f43, Sx.t, Sx.cs, unS_eq, lT, lS, m1, m2, neg600, neg120, h1, h2, h3, hW, h4, h5, h6, h8, hc]
    · cases O <;> simp (decide := true) (maxSteps := 4000000) only [go_sem, Nat.reduceAdd, Nat.reduceSub, Nat.reduceMul, Nat.reduceDiv, Nat.reduceMod, Nat.reduceLT, Nat.reduceLeDiff, Nat.reduceEqDiff, Nat.reduceBEq, Nat.reduceBNe, Nat.reduceGT, Int.reduceAdd, Int.reduceSub, Int.reduceMul, Int.reduceNeg, Int.reduceLT, Int.reduceLE, Int.reduceEq, Int.reduceNe, Int.reduceBEq, Int.reduceBNe, Int.reduceToNat, Int.reduceGT, Int.reduceGE, ↓reduceIte, decide_true, decide_false, eq_self, Nat.mul_one, Nat.zero_mul, Nat.one_mul, Int.le_refl, Nat.le_refl, Int.cast_ofNat_Int, Try.f43, Sx.t, Sx.cs, unS_eq, lT, lS, m1, m2, neg600, neg120, h1, h2, h3, hW, h4, h5, h6, h7, n6, h8, hc]
end Go.Proofs.Ytadkjjnnnkfalaa.Sx

/- Part Sc. -/
namespace Go.Proofs.Ytadkjjnnnkfalaa.Sx
end Go.Proofs.Ytadkjjnnnkfalaa.Sx
namespace Go.Proofs.Ytadkjjnnnkfalaa.Sx
open Go.RowKit Go.Pm Go.Oc Go.Oh Go.Os
set_option maxRecDepth 100000
set_option linter.unusedVariables false
set_option maxHeartbeats 4000000

noncomputable def sxCheck : List TV → Option TV
  | [.agg [.int .i64 a0, sT, .int .i64 a1, .int .i64 a2, .int .i64 a3, sS]] => match rowL unS sT, rowL unS sS with
    | some tab, some shade => if tab.length ≤ 9000000000000 ∧ shade.length ≤ 9000000000000 then some (.int .i64 (if sxOk (⟨a0, tab, ⟨a1, a2⟩, a3, shade⟩ : Sx) then 0 else 50)) else none
    | _, _ => none
  | _ => none
theorem sxCheck_ok : ∀ xs r, sxCheck xs = some r → PCalls Try.prog 43 xs r := by
  intro xs r h
  unfold sxCheck at h
  split at h
  · split at h
    · rename_i tab shade hT hS
      have hT := rowL_some (un := unS) unS_nil (@unS_some) hT
      have hS := rowL_some (un := unS) unS_nil (@unS_some) hS
      split at h
      · rename_i hc; cases h; exact sCheck_c ⟨_, tab, ⟨_, _⟩, _, shade⟩ hT hS hc.1 hc.2
      · cases h
    · cases h
  · cases h
attribute [go_sem] sxCheck
theorem good_T {x : Sx} {sT : TV} (h : GoodS x) (hT : IsRow Span.cs sT x.tab) : ∃ f, sT = .sl (x.tab.flatMap Span.cs) x.tab.length f := hT.ne (by have := h.len; omega)
theorem sLast_c (x : Sx) {sT sS : TV} (hT : IsRow Span.cs sT x.tab) (hv : sxOk x = true) : PCalls Try.prog 112 [x.t sT sS] (.int .i64 (last x)) := by
  have h := sxOk_iff.1 hv
  obtain ⟨f, rfl⟩ := good_T h hT
  have hb := last_b h
  have hl := h.len
  have w1 : IntKind.i64.wrap ((x.tab.length : Int) - 1) = (x.tab.length : Int) - 1 := wrap_in (by omega) (by omega)
  have w2 : IntKind.i64.wrap (x.step * ((x.tab.length : Int) - 1)) = last x := wrap_in (show _ ≤ last x by omega) (show last x ≤ _ by omega)
  refine pcalls_by Try.mixes noSpec_ok (fn := Try.f112) Try.func112 rfl (by kernel_rfl) (by show 1 ≤ _; decide) ?_
  simp (decide := true) (maxSteps := 4000000) only [go_sem, Nat.reduceAdd, Nat.reduceSub, Nat.reduceMul, Nat.reduceDiv, Nat.reduceMod, Nat.reduceLT, Nat.reduceLeDiff, Nat.reduceEqDiff, Nat.reduceBEq, Nat.reduceBNe, Nat.reduceGT, Int.reduceAdd, Int.reduceSub, Int.reduceMul, Int.reduceNeg, Int.reduceLT, Int.reduceLE, Int.reduceEq, Int.reduceNe, Int.reduceBEq, Int.reduceBNe, Int.reduceToNat, Int.reduceGT, Int.reduceGE, ↓reduceIte, decide_true, decide_false, eq_self, Nat.mul_one, Nat.zero_mul, Nat.one_mul, Int.le_refl, Nat.le_refl, Int.cast_ofNat_Int, Try.f112, Sx.t, Sx.cs, w1, w2]
noncomputable def sxLast : List TV → Option TV
  | [.agg [.int .i64 a0, sT, .int .i64 a1, .int .i64 a2, .int .i64 a3, sS]] => match rowL unS sT, rowL unS sS with
    | some tab, some shade => if sxOk (⟨a0, tab, ⟨a1, a2⟩, a3, shade⟩ : Sx) = true then some (.int .i64 (last (⟨a0, tab, ⟨a1, a2⟩, a3, shade⟩ : Sx))) else none
    | _, _ => none
  | _ => none
theorem sxLast_ok : ∀ xs r, sxLast xs = some r → PCalls Try.prog 112 xs r := by
  intro xs r h
  unfold sxLast at h
  split at h
  · split at h
    · rename_i tab shade hT hS
      have hT := rowL_some (un := unS) unS_nil (@unS_some) hT
      have hS := rowL_some (un := unS) unS_nil (@unS_some) hS
      split at h
      · rename_i hc; cases h; exact sLast_c ⟨_, tab, ⟨_, _⟩, _, shade⟩ hT hc
      · cases h
    · cases h
  · cases h
attribute [go_sem] sxLast
noncomputable def spSf : Pm.Spec := spSa.one 112 sxLast
@[go_sem] theorem spSf_p (f : FuncId) (xs : List TV) : spSf.p f xs = Pm.Spec.p (spSa.one 112 sxLast) f xs := rfl
@[go_sem] theorem spSf_h (f : FuncId) (ps : List PV) (hl : List PO) : spSf.h f ps hl = Pm.Spec.h (spSa.one 112 sxLast) f ps hl := rfl
@[go_sem] theorem spSf_y (Y : Pm.YS) (f : FuncId) (ps : List PV) (hl : List PO) : spSf.y Y f ps hl = Pm.Spec.y (spSa.one 112 sxLast) Y f ps hl := rfl
@[go_sem] theorem spSf_fz (f : FuncId) : spSf.fz f = Pm.Spec.fz (spSa.one 112 sxLast) f := rfl
@[go_sem] theorem spSf_fr (f : FuncId) : spSf.fr f = Pm.Spec.fr (spSa.one 112 sxLast) f := rfl
@[go_sem] theorem spSf_yf (f : FuncId) : spSf.yf f = Pm.Spec.yf (spSa.one 112 sxLast) f := rfl
@[go_sem] theorem spSf_mu (t : TypeId) : spSf.mu t = Pm.Spec.mu (spSa.one 112 sxLast) t := rfl
@[go_sem] theorem spSf_nf (t : TypeId) : spSf.nf t = Pm.Spec.nf (spSa.one 112 sxLast) t := rfl
theorem spSf_ok : SpecOk Try.prog spSf := Spec.one_ok sxLast_ok spSa_ok
theorem sIsReading_c (x : Sx) {sT sS : TV} (hT : IsRow Span.cs sT x.tab) (hS : IsRow Span.cs sS x.shade) (hv : sxOk x = true) (a s : Int) : PCalls Try.prog 73 [x.t sT sS, .agg [.int .i64 a, .int .i64 s]] (.bool (isRd x a s)) := by
  have h := sxOk_iff.1 hv
  have hp := pow_len h.sh
  have rT := rowS_is hT
  have rS := rowS_is hS
  unfold rowL at rT rS
  simp only [unS_nil] at rT rS
  have hr : isRd x a s = (inB a 0 (last x) && inB s 0 (2 ^ x.shade.length - 1)) := rfl
  have h6 := h.sh
  obtain ⟨step, tab, ⟨i0, i1⟩, wrong, shade⟩ := x
  simp only at *
  obtain ⟨P2, hP2⟩ : ∃ P2 : Int, (2 : Int) ^ shade.length = P2 := ⟨_, rfl⟩
  have hsh : IntKind.i64.wrap (1 * 2 ^ min shade.length 64) = P2 := by rw [Nat.min_eq_left (by omega), Int.one_mul, hP2, wrap_in (by omega) (by omega)]
  have w1 : IntKind.i64.wrap (P2 - 1) = P2 - 1 := wrap_in (by omega) (by omega)
  rw [hP2] at hr
  have hl0 : ¬ (shade.length : Int) < 0 := by omega
  refine pcalls_by Try.mixes spSf_ok (fn := Try.f73) Try.func73 rfl (by kernel_rfl) (by show 2 ≤ _; decide) ?_
  rw [hr]
  rcases hS with ⟨rfl, rfl⟩ | ⟨f', rfl⟩
  · have e1 : P2 = 1 := hP2.symm
    subst e1
    have w0 : IntKind.i64.wrap (1 * 2 ^ min 0 64) = 1 := rfl
    have w0' : IntKind.i64.wrap 0 = 0 := rfl
    simp (decide := true) (maxSteps := 4000000) only [go_sem, Nat.reduceAdd, Nat.reduceSub, Nat.reduceMul, Nat.reduceDiv, Nat.reduceMod, Nat.reduceLT, Nat.reduceLeDiff, Nat.reduceEqDiff, Nat.reduceBEq, Nat.reduceBNe, Nat.reduceGT, Int.reduceAdd, Int.reduceSub, Int.reduceMul, Int.reduceNeg, Int.reduceLT, Int.reduceLE, Int.reduceEq, Int.reduceNe, Int.reduceBEq, Int.reduceBNe, Int.reduceToNat, Int.reduceGT, Int.reduceGE, ↓reduceIte, decide_true, decide_false, eq_self, Nat.mul_one, Nat.zero_mul, Nat.one_mul, Int.le_refl, Nat.le_refl, Int.cast_ofNat_Int, Try.f73, Sx.t, Sx.cs, rT, hv, hsh, w1, w0, w0', hl0, IntKind.bits]
  · simp (decide := true) (maxSteps := 4000000) only [go_sem, Nat.reduceAdd, Nat.reduceSub, Nat.reduceMul, Nat.reduceDiv, Nat.reduceMod, Nat.reduceLT, Nat.reduceLeDiff, Nat.reduceEqDiff, Nat.reduceBEq, Nat.reduceBNe, Nat.reduceGT, Int.reduceAdd, Int.reduceSub, Int.reduceMul, Int.reduceNeg, Int.reduceLT, Int.reduceLE, Int.reduceEq, Int.reduceNe, Int.reduceBEq, Int.reduceBNe, Int.reduceToNat, Int.reduceGT, Int.reduceGE, ↓reduceIte, decide_true, decide_false, eq_self, Nat.mul_one, Nat.zero_mul, Nat.one_mul, Int.le_refl, Nat.le_refl, Int.cast_ofNat_Int, Try.f73, Sx.t, Sx.cs, rT, unS_eq, hv, hsh, w1, hl0, IntKind.bits]
noncomputable def sxIsReading : List TV → Option TV
  | [.agg [.int .i64 a0, sT, .int .i64 a1, .int .i64 a2, .int .i64 a3, sS], .agg [.int .i64 p, .int .i64 q]] => match rowL unS sT, rowL unS sS with
    | some tab, some shade => if sxOk (⟨a0, tab, ⟨a1, a2⟩, a3, shade⟩ : Sx) = true then some (.bool (isRd (⟨a0, tab, ⟨a1, a2⟩, a3, shade⟩ : Sx) p q)) else none
    | _, _ => none
  | _ => none
theorem sxIsReading_ok : ∀ xs r, sxIsReading xs = some r → PCalls Try.prog 73 xs r := by
  intro xs r h
  unfold sxIsReading at h
  split at h
  · split at h
    · rename_i tab shade hT hS
      have hT := rowL_some (un := unS) unS_nil (@unS_some) hT
      have hS := rowL_some (un := unS) unS_nil (@unS_some) hS
      split at h
      · rename_i hc; cases h; exact sIsReading_c ⟨_, tab, ⟨_, _⟩, _, shade⟩ hT hS hc _ _
      · cases h
    · cases h
  · cases h
attribute [go_sem] sxIsReading

theorem sFixed_c (s : Span) (a : Int) : PCalls Try.prog 153 [s.t, .int .i64 a] s.t := by
  refine pcalls_by Try.mixes noSpec_ok (fn := Try.f153) Try.func153 rfl (by kernel_rfl) (by show 2 ≤ _; decide) ?_
  simp (decide := true) (maxSteps := 4000000) only [go_sem, Nat.reduceAdd, Nat.reduceSub, Nat.reduceMul, Nat.reduceDiv, Nat.reduceMod, Nat.reduceLT, Nat.reduceLeDiff, Nat.reduceEqDiff, Nat.reduceBEq, Nat.reduceBNe, Nat.reduceGT, Int.reduceAdd, Int.reduceSub, Int.reduceMul, Int.reduceNeg, Int.reduceLT, Int.reduceLE, Int.reduceEq, Int.reduceNe, Int.reduceBEq, Int.reduceBNe, Int.reduceToNat, Int.reduceGT, Int.reduceGE, ↓reduceIte, decide_true, decide_false, eq_self, Nat.mul_one, Nat.zero_mul, Nat.one_mul, Int.le_refl, Nat.le_refl, Int.cast_ofNat_Int, Try.f153, Span.t, Span.cs]
noncomputable def sxFixed : List TV → Option TV
  | [.agg [.int .i64 a, .int .i64 b], .int .i64 n] => some (.agg [.int .i64 a, .int .i64 b])
  | _ => none
theorem sxFixed_ok : ∀ xs r, sxFixed xs = some r → PCalls Try.prog 153 xs r := by
  intro xs r h
  unfold sxFixed at h
  split at h
  · cases h; exact sFixed_c ⟨_, _⟩ _
  · cases h
attribute [go_sem] sxFixed
theorem sedivT {a b : Int} (h : 0 < b) : (if a.tmod b < 0 then a.tdiv b - 1 else a.tdiv b) = a / b := by
  have h1 := Int.mul_tdiv_add_tmod a b
  have h2 := Int.mul_ediv_add_emod a b
  have h3 := Int.emod_nonneg a (show b ≠ 0 by omega)
  have h4 := Int.emod_lt_of_pos a h
  have h5 : -b < a.tmod b ∧ a.tmod b < b := by
    have := Int.tmod_lt_of_pos a h
    have h6 := Int.tmod_lt_of_pos (-a) h
    rw [Int.neg_tmod] at h6
    omega
  by_cases hn : a.tmod b < 0
  · rw [if_pos hn]
    have e : b * (a.tdiv b - 1) + (a.tmod b + b) = a := by rw [Int.mul_sub]; omega
    have := (Int.ediv_emod_unique h (a := a) (r := a.tmod b + b) (q := a.tdiv b - 1)).2 ⟨by omega, by omega, by omega⟩
    exact this.1.symm
  · rw [if_neg hn]
    have := (Int.ediv_emod_unique h (a := a) (r := a.tmod b) (q := a.tdiv b)).2 ⟨by omega, by omega, by omega⟩
    exact this.1.symm
theorem sDown_c (a b : Int) (hb : 0 < b) (ha : -4000000000000000000 ≤ a ∧ a ≤ 4000000000000000000) : PCalls Try.prog 155 [.int .i64 a, .int .i64 b] (.int .i64 (a / b)) := by
  refine pcalls_by Try.mixes noSpec_ok (fn := Try.f155) Try.func155 rfl (by kernel_rfl) (by show 2 ≤ _; decide) ?_
  have hne : ¬ b = 0 := by omega
  have hq := sedivT (a := a) hb
  have hd := hdiv_mid (a := a) (b := b) ha hb
  have hd := hd.resolve_right id
  unfold hMid at hd
  by_cases hn : a.tmod b < 0
  · rw [if_pos hn] at hq
    have w1 : IntKind.i64.wrap (a.tdiv b) = a.tdiv b := wrap_in (by omega) (by omega)
    have w2 : IntKind.i64.wrap (a.tdiv b - 1) = a / b := by rw [wrap_in (by omega) (by omega)]; exact hq
    simp (decide := true) (maxSteps := 4000000) only [go_sem, Nat.reduceAdd, Nat.reduceSub, Nat.reduceMul, Nat.reduceDiv, Nat.reduceMod, Nat.reduceLT, Nat.reduceLeDiff, Nat.reduceEqDiff, Nat.reduceBEq, Nat.reduceBNe, Nat.reduceGT, Int.reduceAdd, Int.reduceSub, Int.reduceMul, Int.reduceNeg, Int.reduceLT, Int.reduceLE, Int.reduceEq, Int.reduceNe, Int.reduceBEq, Int.reduceBNe, Int.reduceToNat, Int.reduceGT, Int.reduceGE, ↓reduceIte, decide_true, decide_false, eq_self, Nat.mul_one, Nat.zero_mul, Nat.one_mul, Int.le_refl, Nat.le_refl, Int.cast_ofNat_Int, Try.f155, hne, hn, w1, w2]
  · rw [if_neg hn] at hq
    have w1 : IntKind.i64.wrap (a.tdiv b) = a / b := by rw [wrap_in (by omega) (by omega)]; exact hq
    simp (decide := true) (maxSteps := 4000000) only [go_sem, Nat.reduceAdd, Nat.reduceSub, Nat.reduceMul, Nat.reduceDiv, Nat.reduceMod, Nat.reduceLT, Nat.reduceLeDiff, Nat.reduceEqDiff, Nat.reduceBEq, Nat.reduceBNe, Nat.reduceGT, Int.reduceAdd, Int.reduceSub, Int.reduceMul, Int.reduceNeg, Int.reduceLT, Int.reduceLE, Int.reduceEq, Int.reduceNe, Int.reduceBEq, Int.reduceBNe, Int.reduceToNat, Int.reduceGT, Int.reduceGE, ↓reduceIte, decide_true, decide_false, eq_self, Nat.mul_one, Nat.zero_mul, Nat.one_mul, Int.le_refl, Nat.le_refl, Int.cast_ofNat_Int, Try.f155, hne, hn, w1]
noncomputable def sxDown : List TV → Option TV
  | [.int .i64 a, .int .i64 b] => if 0 < b ∧ -4000000000000000000 ≤ a ∧ a ≤ 4000000000000000000 then some (.int .i64 (a / b)) else none
  | _ => none
theorem sxDown_ok : ∀ xs r, sxDown xs = some r → PCalls Try.prog 155 xs r := by
  intro xs r h
  unfold sxDown at h
  split at h
  · split at h
    · rename_i hc; cases h; exact sDown_c _ _ hc.1 hc.2
    · cases h
  · cases h
attribute [go_sem] sxDown
noncomputable def spSg : Pm.Spec := noSpec.one 155 sxDown
@[go_sem] theorem spSg_p (f : FuncId) (xs : List TV) : spSg.p f xs = Pm.Spec.p (noSpec.one 155 sxDown) f xs := rfl
@[go_sem] theorem spSg_h (f : FuncId) (ps : List PV) (hl : List PO) : spSg.h f ps hl = Pm.Spec.h (noSpec.one 155 sxDown) f ps hl := rfl
@[go_sem] theorem spSg_y (Y : Pm.YS) (f : FuncId) (ps : List PV) (hl : List PO) : spSg.y Y f ps hl = Pm.Spec.y (noSpec.one 155 sxDown) Y f ps hl := rfl
@[go_sem] theorem spSg_fz (f : FuncId) : spSg.fz f = Pm.Spec.fz (noSpec.one 155 sxDown) f := rfl
@[go_sem] theorem spSg_fr (f : FuncId) : spSg.fr f = Pm.Spec.fr (noSpec.one 155 sxDown) f := rfl
@[go_sem] theorem spSg_yf (f : FuncId) : spSg.yf f = Pm.Spec.yf (noSpec.one 155 sxDown) f := rfl
@[go_sem] theorem spSg_mu (t : TypeId) : spSg.mu t = Pm.Spec.mu (noSpec.one 155 sxDown) t := rfl
@[go_sem] theorem spSg_nf (t : TypeId) : spSg.nf t = Pm.Spec.nf (noSpec.one 155 sxDown) t := rfl
theorem spSg_ok : SpecOk Try.prog spSg := Spec.one_ok sxDown_ok noSpec_ok
theorem sTable_c {st : Int} {l : List Span} (f : Bool) {a : Int} (h1 : 1 ≤ st ∧ st ≤ 72000) (hl : l.all (spannedB · (-600) 600) = true) (h0 : 1 ≤ l.length) (hll : l.length ≤ 9000000000000) (ha : 0 ≤ a) (ha2 : a ≤ 504000) (ha3 : a ≤ st * (l.length - 1)) :
    PCalls Try.prog 154 [.agg [.int .i64 st, .sl (l.flatMap Span.cs) l.length f], .int .i64 a] (corr st l a).t := by
  have hit := inTab h1.1 h0 ha ha3
  have hg : ∀ s ∈ l, -600 ≤ s.lo ∧ s.lo ≤ s.hi ∧ s.hi ≤ 600 := fun s hs => spannedB_iff.1 (List.all_eq_true.1 hl s hs)
  have hne : ¬ st = 0 := by omega
  have q1 : a.tdiv st = a / st := Int.tdiv_eq_ediv_of_nonneg ha
  have q2 : a.tmod st = a % st := Int.tmod_eq_emod_of_nonneg ha
  have hq := hit.k0
  have hqn := hit.kn
  have hd0 := hit.d0
  have hds := hit.ds
  have hqb : a / st ≤ 504000 := Int.le_trans (Int.ediv_le_self st ha) ha2
  obtain ⟨k, hk⟩ : ∃ k : Nat, a / st = k := ⟨(a / st).toNat, (Int.toNat_of_nonneg hq).symm⟩
  obtain ⟨d, hd⟩ : ∃ d : Int, a % st = d := ⟨_, rfl⟩
  have w1 : IntKind.i64.wrap (k : Int) = k := wrap_in (by omega) (by omega)
  have w2 : IntKind.i64.wrap d = d := wrap_in (by omega) (by omega)
  rw [hk, Int.toNat_natCast] at hqn
  have hkl : (k : Int) < l.length := by omega
  obtain ⟨x, hx⟩ := get_lt hkl
  have dx := flat_at Span.cs (n := 2) (fun _ => rfl) hx
  have ex := atS_eq hx
  have gx := hg x (List.mem_of_getElem? hx)
  refine pcalls_by Try.mixes spSg_ok (fn := Try.f154) Try.func154 rfl (by kernel_rfl) (by show 2 ≤ _; decide) ?_
  by_cases hd00 : d = 0
  · subst hd00
    have e : corr st l a = x := by unfold corr; simp only [hd, hk, Int.toNat_natCast, if_true, ex]
    have b0 : ((0 : Int) == 0) = true := rfl
    simp (decide := true) (maxSteps := 4000000) only [go_sem, Nat.reduceAdd, Nat.reduceSub, Nat.reduceMul, Nat.reduceDiv, Nat.reduceMod, Nat.reduceLT, Nat.reduceLeDiff, Nat.reduceEqDiff, Nat.reduceBEq, Nat.reduceBNe, Nat.reduceGT, Int.reduceAdd, Int.reduceSub, Int.reduceMul, Int.reduceNeg, Int.reduceLT, Int.reduceLE, Int.reduceEq, Int.reduceNe, Int.reduceBEq, Int.reduceBNe, Int.reduceToNat, Int.reduceGT, Int.reduceGE, ↓reduceIte, decide_true, decide_false, eq_self, Nat.mul_one, Nat.zero_mul, Nat.one_mul, Int.le_refl, Nat.le_refl, Int.cast_ofNat_Int, Try.f154, hne, q1, q2, hk, hd, w1, w2, b0, hkl, Int.toNat_natCast, dx, Span.cs, e, Span.t]
  · have hkd := hit.kd (by rw [hd]; exact hd00)
    rw [hk, Int.toNat_natCast] at hkd
    have hkl1 : ((k + 1 : Nat) : Int) < l.length := by omega
    obtain ⟨y, hy⟩ := get_lt hkl1
    have dy := flat_at Span.cs (n := 2) (fun _ => rfl) hy
    have ey := atS_eq hy
    have gy := hg y (List.mem_of_getElem? hy)
    have e : corr st l a = ⟨(x.lo * (st - d) + y.lo * d) / st, (x.hi * (st - d) + y.hi * d) / st⟩ := by unfold corr; simp only [hd, hk, Int.toNat_natCast, if_neg hd00, ex, ey]
    have b0 : (d == 0) = false := beq_int_f hd00
    have w3 : IntKind.i64.wrap ((k : Int) + 1) = ((k + 1 : Nat) : Int) := by rw [wrap_in (by omega) (by omega)]; omega
    have w4 : IntKind.i64.wrap (st - d) = st - d := wrap_in (by omega) (by omega)
    rw [hd] at hd0 hds
    have p1 := mulR (a := x.lo) (b := st - d) (m := 600) (n := 72000) (by omega) (by omega) (by omega)
    have p2 := mulR (a := y.lo) (b := d) (m := 600) (n := 72000) (by omega) (by omega) (by omega)
    have p3 := mulR (a := x.hi) (b := st - d) (m := 600) (n := 72000) (by omega) (by omega) (by omega)
    have p4 := mulR (a := y.hi) (b := d) (m := 600) (n := 72000) (by omega) (by omega) (by omega)
    obtain ⟨x0, x1⟩ := x
    obtain ⟨y0, y1⟩ := y
    simp only at *
    have w5 : IntKind.i64.wrap (x0 * (st - d)) = x0 * (st - d) := wrap_in (by omega) (by omega)
    have w6 : IntKind.i64.wrap (y0 * d) = y0 * d := wrap_in (by omega) (by omega)
    have w7 : IntKind.i64.wrap (x1 * (st - d)) = x1 * (st - d) := wrap_in (by omega) (by omega)
    have w8 : IntKind.i64.wrap (y1 * d) = y1 * d := wrap_in (by omega) (by omega)
    have w9 : IntKind.i64.wrap (x0 * (st - d) + y0 * d) = x0 * (st - d) + y0 * d := wrap_in (by omega) (by omega)
    have w10 : IntKind.i64.wrap (x1 * (st - d) + y1 * d) = x1 * (st - d) + y1 * d := wrap_in (by omega) (by omega)
    have c1 : 0 < st ∧ -4000000000000000000 ≤ x0 * (st - d) + y0 * d ∧ x0 * (st - d) + y0 * d ≤ 4000000000000000000 := by omega
    have c2 : 0 < st ∧ -4000000000000000000 ≤ x1 * (st - d) + y1 * d ∧ x1 * (st - d) + y1 * d ≤ 4000000000000000000 := by omega
    simp (decide := true) (maxSteps := 4000000) only [go_sem, Nat.reduceAdd, Nat.reduceSub, Nat.reduceMul, Nat.reduceDiv, Nat.reduceMod, Nat.reduceLT, Nat.reduceLeDiff, Nat.reduceEqDiff, Nat.reduceBEq, Nat.reduceBNe, Nat.reduceGT, Int.reduceAdd, Int.reduceSub, Int.reduceMul, Int.reduceNeg, Int.reduceLT, Int.reduceLE, Int.reduceEq, Int.reduceNe, Int.reduceBEq, Int.reduceBNe, Int.reduceToNat, Int.reduceGT, Int.reduceGE, ↓reduceIte, decide_true, decide_false, eq_self, Nat.mul_one, Nat.zero_mul, Nat.one_mul, Int.le_refl, Nat.le_refl, Int.cast_ofNat_Int, Try.f154, hne, q1, q2, hk, hd, w1, w2, w3, b0, hkl, hkl1, Int.toNat_natCast, dx, dy, w4, w5, w6, w7, w8, w9, w10, c1, c2, Span.cs, e, Span.t]
end Go.Proofs.Ytadkjjnnnkfalaa.Sx

/- Part Sd. -/
namespace Go.Proofs.Ytadkjjnnnkfalaa.Sx
end Go.Proofs.Ytadkjjnnnkfalaa.Sx
namespace Go.Os
open Go Go.Pm Go.Oc Go.Oh
def bdB (s : Span) : Bool := inB s.lo (-10000000) 10000000 && inB s.hi (-10000000) 10000000
theorem bdB_iff {s : Span} : bdB s = true ↔ (-10000000 ≤ s.lo ∧ s.lo ≤ 10000000) ∧ -10000000 ≤ s.hi ∧ s.hi ≤ 10000000 := by unfold bdB; rw [Bool.and_eq_true, inB_iff, inB_iff]
def sumL (l : List Span) : Span := l.foldl addS ⟨0, 0⟩
theorem sumL_snoc (l : List Span) (s : Span) : sumL (l ++ [s]) = addS (sumL l) s := by unfold sumL; rw [List.foldl_append]; rfl
theorem sumL_take {l : List Span} {k : Nat} {s : Span} (h : l[k]? = some s) : sumL (l.take (k + 1)) = addS (sumL (l.take k)) s := by rw [take_snoc h, sumL_snoc]
theorem sumL_b {l : List Span} (h : l.all bdB = true) : ∀ k, k ≤ l.length → (-(10000000 * (k : Int)) ≤ (sumL (l.take k)).lo ∧ (sumL (l.take k)).lo ≤ 10000000 * (k : Int)) ∧ -(10000000 * (k : Int)) ≤ (sumL (l.take k)).hi ∧ (sumL (l.take k)).hi ≤ 10000000 * (k : Int)
  | 0, _ => by simp [sumL]
  | k + 1, hk => by
    have ih := sumL_b h k (by omega)
    have hx := List.getElem?_eq_getElem (show k < l.length by omega)
    have hb := bdB_iff.1 (List.all_eq_true.1 h _ (List.mem_of_getElem? hx))
    rw [sumL_take hx]
    simp only [addS]
    omega
/-- What adds to an angle. -/
inductive Ad where
  | fix (s : Span)
  | tab (st : Int) (l : List Span) (f : Bool)
def Ad.tv : Ad → TV
  | .fix s => .ifc 226 s.t
  | .tab st l f => .ifc 228 (.agg [.int .i64 st, .sl (l.flatMap Span.cs) l.length f])
def Ad.cs (a : Ad) : List TV := [a.tv]
theorem Ad.cs_inj (x y : Ad) (h : x.cs = y.cs) : x = y := by
  simp only [Ad.cs, List.cons.injEq, and_true] at h
  cases x with
  | fix s => cases y with
    | fix s' =>
      obtain ⟨a, b⟩ := s; obtain ⟨c, d⟩ := s'
      simp only [Ad.tv, Span.t, Span.cs, TV.ifc.injEq, TV.agg.injEq, List.cons.injEq, TV.int.injEq, true_and, and_true] at h
      rw [h.1, h.2]
    | tab => simp [Ad.tv] at h
  | tab st l f => cases y with
    | fix => simp [Ad.tv] at h
    | tab st' l' f' =>
      simp only [Ad.tv, TV.ifc.injEq, TV.agg.injEq, List.cons.injEq, TV.int.injEq, TV.sl.injEq, true_and, and_true] at h
      obtain ⟨h1, h2, _, h4⟩ := h
      rw [h1, h4, flat_inj (c := Span.cs) (n := 2) (fun _ => rfl) (by decide) (fun x y h => by
        obtain ⟨a, b⟩ := x; obtain ⟨c, d⟩ := y
        simp only [Span.cs, List.cons.injEq, TV.int.injEq, true_and, and_true] at h
        rw [h.1, h.2]) h2]
noncomputable def unA (cs : List TV) : Option (List Ad) := unflat Ad.cs cs
theorem unA_eq (l : List Ad) : unA (l.flatMap Ad.cs) = some l := unflat_eq (n := 1) (fun _ => rfl) (by decide) Ad.cs_inj l
theorem unA_nil : unA [] = some [] := unA_eq []
theorem unA_some {cs : List TV} {l : List Ad} (h : unA cs = some l) : cs = l.flatMap Ad.cs := unflat_some h
attribute [go_sem] unA_eq unA_nil
/-- What it adds at an angle. -/
def Ad.at' : Ad → Int → Span
  | .fix s, _ => s
  | .tab st l _, a => corr st l a
def Ad.ok (a : Int) : Ad → Bool
  | .fix s => bdB s
  | .tab st l _ => inB st 1 72000 && (decide (1 ≤ l.length ∧ l.length ≤ 9000000000000) && (l.all (spannedB · (-600) 600) && (decide (0 ≤ a ∧ a ≤ 504000) && decide (a ≤ st * (l.length - 1)))))
theorem Ad.at_b {a : Int} {x : Ad} (h : x.ok a = true) : bdB (x.at' a) = true := by
  cases x with
  | fix s => exact h
  | tab st l f =>
    simp only [Ad.ok, Bool.and_eq_true, inB_iff, decide_eq_true_eq, List.all_eq_true, spannedB_iff] at h
    obtain ⟨h1, h2, h3, h4, h5⟩ := h
    have := corr_b (inTab h1.1 h2.1 h4.1 h5) h3
    rw [bdB_iff]
    simp only [Ad.at']
    omega
/-- The shades that are used, so many looked at. -/
def shA (x : Sx) (set : Nat) (k : Nat) : List Ad := .fix ⟨-x.wrong, x.wrong⟩ :: ((List.range k).filter set.testBit).map fun i => .fix (atS x.shade i)
theorem shA_t {x : Sx} {set k : Nat} (h : set.testBit k = true) : shA x set (k + 1) = shA x set k ++ [.fix (atS x.shade k)] := by
  simp [shA, List.range_succ, List.filter_append, h]
theorem shA_f {x : Sx} {set k : Nat} (h : set.testBit k = false) : shA x set (k + 1) = shA x set k := by
  simp [shA, List.range_succ, List.filter_append, h]
theorem shA_len (x : Sx) (set : Nat) : ∀ k, 1 ≤ (shA x set k).length ∧ (shA x set k).length ≤ k + 1
  | 0 => by simp [shA]
  | k + 1 => by
    have := shA_len x set k
    cases h : set.testBit k with
    | false => rw [shA_f h]; omega
    | true => rw [shA_t h, List.length_append, List.length_singleton]; omega
theorem addS_zero (s : Span) : addS ⟨0, 0⟩ s = s := by simp [addS]
theorem shA_sum (x : Sx) (set : Nat) (a : Int) : ∀ k, sumL ((shA x set k).map (·.at' a)) = shTo x set k
  | 0 => by simp [shA, sumL, shTo, Ad.at', addS]
  | k + 1 => by
    rw [shTo_succ]
    cases h : set.testBit k with
    | false => rw [shA_f h, shA_sum x set a k]; rfl
    | true => rw [shA_t h, List.map_append, List.map_singleton, sumL_snoc, shA_sum x set a k]; rfl
theorem shA_ok {x : Sx} (hg : GoodS x) (set : Nat) (a : Int) : ∀ k, k ≤ x.shade.length → (shA x set k).all (Ad.ok a) = true
  | 0, _ => by
    have := hg.wr
    have : bdB ⟨-x.wrong, x.wrong⟩ = true := bdB_iff.2 (by simp only; omega)
    simp [shA, Ad.ok, this]
  | k + 1, hk => by
    have ih := shA_ok hg set a k (by omega)
    cases h : set.testBit k with
    | false => rw [shA_f h]; exact ih
    | true =>
      have hs := hg.shade _ (atS_mem (show k < x.shade.length by omega))
      have : bdB (atS x.shade k) = true := bdB_iff.2 (by omega)
      rw [shA_t h, List.all_append, ih]
      simp [Ad.ok, this]
end Go.Os
namespace Go.Proofs.Ytadkjjnnnkfalaa.Sx
open Go.RowKit Go.Pm Go.Oc Go.Oh Go.Os
set_option maxRecDepth 100000
set_option linter.unusedVariables false
set_option maxHeartbeats 4000000

theorem sSum_c {l : List Span} {s : TV} (hl : IsRow Span.cs s l) (hb : l.all bdB = true) (h16 : l.length ≤ 16) : PCalls Try.prog 122 [s] (sumL l).t := by
  refine pcalls_by Try.mixes noSpec_ok (fn := Try.f122) Try.func122 rfl (by kernel_rfl) (by show 1 ≤ _; decide) ?_
  rcases hl with ⟨rfl, rfl⟩ | ⟨f, rfl⟩
  · simp (decide := true) (maxSteps := 4000000) only [go_sem, Nat.reduceAdd, Nat.reduceSub, Nat.reduceMul, Nat.reduceDiv, Nat.reduceMod, Nat.reduceLT, Nat.reduceLeDiff, Nat.reduceEqDiff, Nat.reduceBEq, Nat.reduceBNe, Nat.reduceGT, Int.reduceAdd, Int.reduceSub, Int.reduceMul, Int.reduceNeg, Int.reduceLT, Int.reduceLE, Int.reduceEq, Int.reduceNe, Int.reduceBEq, Int.reduceBNe, Int.reduceToNat, Int.reduceGT, Int.reduceGE, ↓reduceIte, decide_true, decide_false, eq_self, Nat.mul_one, Nat.zero_mul, Nat.one_mul, Int.le_refl, Nat.le_refl, Int.cast_ofNat_Int, Try.f122]
    refine pwpC_loopU (A := Unit) [2, 3, 6, 7] (fun _ => [(8, .t (.int .i64 0))]) (fun _ => []) (fun _ => 0) () (by decide) (fun _ => by rfl) ?_ fun Q1 hQ1 _ I1 hI1 => ?_
    · simp (decide := true) (maxSteps := 4000000) only [go_sem, Nat.reduceAdd, Nat.reduceSub, Nat.reduceMul, Nat.reduceDiv, Nat.reduceMod, Nat.reduceLT, Nat.reduceLeDiff, Nat.reduceEqDiff, Nat.reduceBEq, Nat.reduceBNe, Nat.reduceGT, Int.reduceAdd, Int.reduceSub, Int.reduceMul, Int.reduceNeg, Int.reduceLT, Int.reduceLE, Int.reduceEq, Int.reduceNe, Int.reduceBEq, Int.reduceBNe, Int.reduceToNat, Int.reduceGT, Int.reduceGE, ↓reduceIte, decide_true, decide_false, eq_self, Nat.mul_one, Nat.zero_mul, Nat.one_mul, Int.le_refl, Nat.le_refl, Int.cast_ofNat_Int]
    · simp (decide := true) (maxSteps := 4000000) only [go_sem, Nat.reduceAdd, Nat.reduceSub, Nat.reduceMul, Nat.reduceDiv, Nat.reduceMod, Nat.reduceLT, Nat.reduceLeDiff, Nat.reduceEqDiff, Nat.reduceBEq, Nat.reduceBNe, Nat.reduceGT, Int.reduceAdd, Int.reduceSub, Int.reduceMul, Int.reduceNeg, Int.reduceLT, Int.reduceLE, Int.reduceEq, Int.reduceNe, Int.reduceBEq, Int.reduceBNe, Int.reduceToNat, Int.reduceGT, Int.reduceGE, ↓reduceIte, decide_true, decide_false, eq_self, Nat.mul_one, Nat.zero_mul, Nat.one_mul, Int.le_refl, Nat.le_refl, Int.cast_ofNat_Int]
      refine hQ1 _ _ ?_
      simp (decide := true) (maxSteps := 4000000) only [go_sem, Nat.reduceAdd, Nat.reduceSub, Nat.reduceMul, Nat.reduceDiv, Nat.reduceMod, Nat.reduceLT, Nat.reduceLeDiff, Nat.reduceEqDiff, Nat.reduceBEq, Nat.reduceBNe, Nat.reduceGT, Int.reduceAdd, Int.reduceSub, Int.reduceMul, Int.reduceNeg, Int.reduceLT, Int.reduceLE, Int.reduceEq, Int.reduceNe, Int.reduceBEq, Int.reduceBNe, Int.reduceToNat, Int.reduceGT, Int.reduceGE, ↓reduceIte, decide_true, decide_false, eq_self, Nat.mul_one, Nat.zero_mul, Nat.one_mul, Int.le_refl, Nat.le_refl, Int.cast_ofNat_Int, sumL, Span.t, Span.cs]
  · simp (decide := true) (maxSteps := 4000000) only [go_sem, Nat.reduceAdd, Nat.reduceSub, Nat.reduceMul, Nat.reduceDiv, Nat.reduceMod, Nat.reduceLT, Nat.reduceLeDiff, Nat.reduceEqDiff, Nat.reduceBEq, Nat.reduceBNe, Nat.reduceGT, Int.reduceAdd, Int.reduceSub, Int.reduceMul, Int.reduceNeg, Int.reduceLT, Int.reduceLE, Int.reduceEq, Int.reduceNe, Int.reduceBEq, Int.reduceBNe, Int.reduceToNat, Int.reduceGT, Int.reduceGE, ↓reduceIte, decide_true, decide_false, eq_self, Nat.mul_one, Nat.zero_mul, Nat.one_mul, Int.le_refl, Nat.le_refl, Int.cast_ofNat_Int, Try.f122]
    refine pwpC_loopU (A := { k : Nat // k ≤ l.length }) [2, 3, 6, 7] (fun k => [(8, .t (.int .i64 k.1))]) (fun k => [(1, .box ((sumL (l.take k.1)).cs.map .t))]) (fun k => l.length - k.1) ⟨0, by omega⟩ (by decide) (fun _ => by rfl) ?_ fun Q1 hQ1 ⟨k, hk⟩ I1 hI1 => ?_
    · simp (decide := true) (maxSteps := 4000000) only [go_sem, Nat.reduceAdd, Nat.reduceSub, Nat.reduceMul, Nat.reduceDiv, Nat.reduceMod, Nat.reduceLT, Nat.reduceLeDiff, Nat.reduceEqDiff, Nat.reduceBEq, Nat.reduceBNe, Nat.reduceGT, Int.reduceAdd, Int.reduceSub, Int.reduceMul, Int.reduceNeg, Int.reduceLT, Int.reduceLE, Int.reduceEq, Int.reduceNe, Int.reduceBEq, Int.reduceBNe, Int.reduceToNat, Int.reduceGT, Int.reduceGE, ↓reduceIte, decide_true, decide_false, eq_self, Nat.mul_one, Nat.zero_mul, Nat.one_mul, Int.le_refl, Nat.le_refl, Int.cast_ofNat_Int, sumL, Span.cs, List.take_zero]
    · by_cases hlt : (k : Int) < l.length
      · obtain ⟨x, hx⟩ := get_lt hlt
        have hd := flat_at Span.cs (n := 2) (fun _ => rfl) hx
        have hc1 : IntKind.i64.wrap (k + 1) = ((k + 1 : Nat) : Int) := by rw [wrap_in (by omega) (by omega)]; omega
        have hs := sumL_b hb k hk
        have hxb := bdB_iff.1 (List.all_eq_true.1 hb _ (List.mem_of_getElem? hx))
        have hnx := sumL_take hx
        obtain ⟨S, hS⟩ : ∃ S, sumL (l.take k) = S := ⟨_, rfl⟩
        rw [hS] at hs hnx
        have w1 : IntKind.i64.wrap (S.lo + x.lo) = S.lo + x.lo := wrap_in (by omega) (by omega)
        have w2 : IntKind.i64.wrap (S.hi + x.hi) = S.hi + x.hi := wrap_in (by omega) (by omega)
        simp (decide := true) (maxSteps := 4000000) only [go_sem, Nat.reduceAdd, Nat.reduceSub, Nat.reduceMul, Nat.reduceDiv, Nat.reduceMod, Nat.reduceLT, Nat.reduceLeDiff, Nat.reduceEqDiff, Nat.reduceBEq, Nat.reduceBNe, Nat.reduceGT, Int.reduceAdd, Int.reduceSub, Int.reduceMul, Int.reduceNeg, Int.reduceLT, Int.reduceLE, Int.reduceEq, Int.reduceNe, Int.reduceBEq, Int.reduceBNe, Int.reduceToNat, Int.reduceGT, Int.reduceGE, ↓reduceIte, decide_true, decide_false, eq_self, Nat.mul_one, Nat.zero_mul, Nat.one_mul, Int.le_refl, Nat.le_refl, Int.cast_ofNat_Int, hlt, hd, Span.cs, w1, w2, hS]
        refine hI1 _ ⟨k + 1, by omega⟩ (by simp only; omega) ?_
        simp (decide := true) (maxSteps := 4000000) only [go_sem, Nat.reduceAdd, Nat.reduceSub, Nat.reduceMul, Nat.reduceDiv, Nat.reduceMod, Nat.reduceLT, Nat.reduceLeDiff, Nat.reduceEqDiff, Nat.reduceBEq, Nat.reduceBNe, Nat.reduceGT, Int.reduceAdd, Int.reduceSub, Int.reduceMul, Int.reduceNeg, Int.reduceLT, Int.reduceLE, Int.reduceEq, Int.reduceNe, Int.reduceBEq, Int.reduceBNe, Int.reduceToNat, Int.reduceGT, Int.reduceGE, ↓reduceIte, decide_true, decide_false, eq_self, Nat.mul_one, Nat.zero_mul, Nat.one_mul, Int.le_refl, Nat.le_refl, Int.cast_ofNat_Int, hc1, hnx, addS, Span.cs]
      · have hke : k = l.length := by omega
        subst hke
        simp (decide := true) (maxSteps := 4000000) only [go_sem, Nat.reduceAdd, Nat.reduceSub, Nat.reduceMul, Nat.reduceDiv, Nat.reduceMod, Nat.reduceLT, Nat.reduceLeDiff, Nat.reduceEqDiff, Nat.reduceBEq, Nat.reduceBNe, Nat.reduceGT, Int.reduceAdd, Int.reduceSub, Int.reduceMul, Int.reduceNeg, Int.reduceLT, Int.reduceLE, Int.reduceEq, Int.reduceNe, Int.reduceBEq, Int.reduceBNe, Int.reduceToNat, Int.reduceGT, Int.reduceGE, ↓reduceIte, decide_true, decide_false, eq_self, Nat.mul_one, Nat.zero_mul, Nat.one_mul, Int.le_refl, Nat.le_refl, Int.cast_ofNat_Int, hlt, List.take_length, Span.cs]
        refine hQ1 _ _ ?_
        simp (decide := true) (maxSteps := 4000000) only [go_sem, Nat.reduceAdd, Nat.reduceSub, Nat.reduceMul, Nat.reduceDiv, Nat.reduceMod, Nat.reduceLT, Nat.reduceLeDiff, Nat.reduceEqDiff, Nat.reduceBEq, Nat.reduceBNe, Nat.reduceGT, Int.reduceAdd, Int.reduceSub, Int.reduceMul, Int.reduceNeg, Int.reduceLT, Int.reduceLE, Int.reduceEq, Int.reduceNe, Int.reduceBEq, Int.reduceBNe, Int.reduceToNat, Int.reduceGT, Int.reduceGE, ↓reduceIte, decide_true, decide_false, eq_self, Nat.mul_one, Nat.zero_mul, Nat.one_mul, Int.le_refl, Nat.le_refl, Int.cast_ofNat_Int, List.take_length, Span.t, Span.cs]
noncomputable def sxSum : List TV → Option TV
  | [s] => match rowL unS s with
    | some l => if l.all bdB = true ∧ l.length ≤ 16 then some ((sumL l).t) else none
    | none => none
  | _ => none
theorem sxSum_ok : ∀ xs r, sxSum xs = some r → PCalls Try.prog 122 xs r := by
  intro xs r h
  unfold sxSum at h
  split at h
  · split at h
    · rename_i l hl
      have hl := rowL_some (un := unS) (by first | rfl | exact unS_nil) (@unS_some) hl
      split at h
      · rename_i hc; cases h; exact sSum_c hl hc.1 hc.2
      · cases h
    · cases h
  · cases h
attribute [go_sem] sxSum
noncomputable def sxTable2 : List TV → Option TV
  | [.agg [.int .i64 st, .sl cs n f], .int .i64 a] => match unS cs with
    | some l => if n = l.length ∧ Ad.ok a (.tab st l f) = true then some (corr st l a).t else none
    | none => none
  | _ => none
theorem sxTable2_ok : ∀ xs r, sxTable2 xs = some r → PCalls Try.prog 154 xs r := by
  intro xs r h
  unfold sxTable2 at h
  split at h
  · split at h
    · rename_i l hl
      split at h
      · rename_i hc; cases h
        obtain ⟨rfl, hc⟩ := hc
        have := unS_some hl
        subst this
        simp only [Ad.ok, Bool.and_eq_true, inB_iff, decide_eq_true_eq] at hc
        obtain ⟨h1, h2, h3, h4, h5⟩ := hc
        exact sTable_c _ h1 h3 h2.1 h2.2 h4.1 h4.2 h5
      · cases h
    · cases h
  · cases h
attribute [go_sem] sxTable2
noncomputable def spSh : Pm.Spec := ((noSpec.one 153 sxFixed).one 154 sxTable2).one 122 sxSum
@[go_sem] theorem spSh_p (f : FuncId) (xs : List TV) : spSh.p f xs = Pm.Spec.p (((noSpec.one 153 sxFixed).one 154 sxTable2).one 122 sxSum) f xs := rfl
@[go_sem] theorem spSh_h (f : FuncId) (ps : List PV) (hl : List PO) : spSh.h f ps hl = Pm.Spec.h (((noSpec.one 153 sxFixed).one 154 sxTable2).one 122 sxSum) f ps hl := rfl
@[go_sem] theorem spSh_y (Y : Pm.YS) (f : FuncId) (ps : List PV) (hl : List PO) : spSh.y Y f ps hl = Pm.Spec.y (((noSpec.one 153 sxFixed).one 154 sxTable2).one 122 sxSum) Y f ps hl := rfl
@[go_sem] theorem spSh_fz (f : FuncId) : spSh.fz f = Pm.Spec.fz (((noSpec.one 153 sxFixed).one 154 sxTable2).one 122 sxSum) f := rfl
@[go_sem] theorem spSh_fr (f : FuncId) : spSh.fr f = Pm.Spec.fr (((noSpec.one 153 sxFixed).one 154 sxTable2).one 122 sxSum) f := rfl
@[go_sem] theorem spSh_yf (f : FuncId) : spSh.yf f = Pm.Spec.yf (((noSpec.one 153 sxFixed).one 154 sxTable2).one 122 sxSum) f := rfl
@[go_sem] theorem spSh_mu (t : TypeId) : spSh.mu t = Pm.Spec.mu (((noSpec.one 153 sxFixed).one 154 sxTable2).one 122 sxSum) t := rfl
@[go_sem] theorem spSh_nf (t : TypeId) : spSh.nf t = Pm.Spec.nf (((noSpec.one 153 sxFixed).one 154 sxTable2).one 122 sxSum) t := rfl
theorem spSh_ok : SpecOk Try.prog spSh := Spec.one_ok sxSum_ok (Spec.one_ok sxTable2_ok (Spec.one_ok sxFixed_ok noSpec_ok))
theorem mthFixed : methodO Try.prog 226 ((nameAt Try.f114 0).getD Try.f83.name) = some 153 := by kernel_rfl
theorem mthTable : methodO Try.prog 228 ((nameAt Try.f114 0).getD Try.f83.name) = some 154 := by kernel_rfl
theorem sAdded_c (a : Int) (l : List Ad) (f : Bool) (hl : l.all (Ad.ok a) = true) (h16 : l.length ≤ 16) : PCalls Try.prog 114 [.int .i64 a, .sl (l.flatMap Ad.cs) l.length f] (sumL (l.map (·.at' a))).t := by
  have m1 := mth_of (l := nameAt Try.f114 0) rfl mthFixed
  have m2 := mth_of (l := nameAt Try.f114 0) rfl mthTable
  have hall : (l.map (·.at' a)).all bdB = true := by
    rw [List.all_map, List.all_eq_true]
    exact fun x hx => Ad.at_b (List.all_eq_true.1 hl x hx)
  refine pcalls_by Try.mixes spSh_ok (fn := Try.f114) Try.func114 rfl (by kernel_rfl) (by show 2 ≤ _; decide) ?_
  simp (decide := true) (maxSteps := 4000000) only [go_sem, Nat.reduceAdd, Nat.reduceSub, Nat.reduceMul, Nat.reduceDiv, Nat.reduceMod, Nat.reduceLT, Nat.reduceLeDiff, Nat.reduceEqDiff, Nat.reduceBEq, Nat.reduceBNe, Nat.reduceGT, Int.reduceAdd, Int.reduceSub, Int.reduceMul, Int.reduceNeg, Int.reduceLT, Int.reduceLE, Int.reduceEq, Int.reduceNe, Int.reduceBEq, Int.reduceBNe, Int.reduceToNat, Int.reduceGT, Int.reduceGE, ↓reduceIte, decide_true, decide_false, eq_self, Nat.mul_one, Nat.zero_mul, Nat.one_mul, Int.le_refl, Nat.le_refl, Int.cast_ofNat_Int, Try.f114]
  refine pwpC_loopU (A := { k : Nat // k ≤ l.length }) [0, 1, 4, 8, 9] (fun k => [(10, .t (.int .i64 k.1)), (5, .own (((l.take k.1).map (·.at' a)).flatMap Span.cs) k.1 1)]) (fun k => [(1, .tok k.1 29)]) (fun k => l.length - k.1) ⟨0, by omega⟩ (by decide) (fun _ => by rfl) ?_ fun Q1 hQ1 ⟨k, hk⟩ I1 hI1 => ?_
  · simp (decide := true) (maxSteps := 4000000) only [go_sem, Nat.reduceAdd, Nat.reduceSub, Nat.reduceMul, Nat.reduceDiv, Nat.reduceMod, Nat.reduceLT, Nat.reduceLeDiff, Nat.reduceEqDiff, Nat.reduceBEq, Nat.reduceBNe, Nat.reduceGT, Int.reduceAdd, Int.reduceSub, Int.reduceMul, Int.reduceNeg, Int.reduceLT, Int.reduceLE, Int.reduceEq, Int.reduceNe, Int.reduceBEq, Int.reduceBNe, Int.reduceToNat, Int.reduceGT, Int.reduceGE, ↓reduceIte, decide_true, decide_false, eq_self, Nat.mul_one, Nat.zero_mul, Nat.one_mul, Int.le_refl, Nat.le_refl, Int.cast_ofNat_Int, List.take_zero]
    first | done | exact ⟨rfl, rfl⟩ | rfl
  · by_cases hlt : (k : Int) < l.length
    · obtain ⟨x, hx⟩ := get_lt hlt
      have hd := flat_at Ad.cs (n := 1) (fun _ => rfl) hx
      rw [Nat.mul_one] at hd
      have hc1 : IntKind.i64.wrap (k + 1) = ((k + 1 : Nat) : Int) := by rw [wrap_in (by omega) (by omega)]; omega
      have hok := List.all_eq_true.1 hl x (List.mem_of_getElem? hx)
      have hr : (k + 1) * 16 ≤ 140737488355328 := by omega
      have e1 : (((l.take k).map (·.at' a)).flatMap Span.cs).length = k * 2 := by rw [flat_len Span.cs (n := 2) (fun _ => rfl), List.length_map, List.length_take]; congr 1; omega
      have hnx : (l.take (k + 1)).map (·.at' a) = (l.take k).map (·.at' a) ++ [x.at' a] := by rw [take_snoc hx, List.map_append]; rfl
      cases x with
      | fix s =>
        simp (decide := true) (maxSteps := 4000000) only [go_sem, Nat.reduceAdd, Nat.reduceSub, Nat.reduceMul, Nat.reduceDiv, Nat.reduceMod, Nat.reduceLT, Nat.reduceLeDiff, Nat.reduceEqDiff, Nat.reduceBEq, Nat.reduceBNe, Nat.reduceGT, Int.reduceAdd, Int.reduceSub, Int.reduceMul, Int.reduceNeg, Int.reduceLT, Int.reduceLE, Int.reduceEq, Int.reduceNe, Int.reduceBEq, Int.reduceBNe, Int.reduceToNat, Int.reduceGT, Int.reduceGE, ↓reduceIte, decide_true, decide_false, eq_self, Nat.mul_one, Nat.zero_mul, Nat.one_mul, Int.le_refl, Nat.le_refl, Int.cast_ofNat_Int, hlt, hd, Ad.cs, Ad.tv, Span.t, Span.cs, m1, hr, e1]
        refine hI1 _ ⟨k + 1, by omega⟩ (by simp only; omega) ?_
        have hnx' : ((l.take (k + 1)).map (·.at' a)).flatMap Span.cs = ((l.take k).map (·.at' a)).flatMap Span.cs ++ [.int .i64 s.lo, .int .i64 s.hi] := by rw [hnx, List.flatMap_append]; rfl
        simp (decide := true) (maxSteps := 4000000) only [go_sem, Nat.reduceAdd, Nat.reduceSub, Nat.reduceMul, Nat.reduceDiv, Nat.reduceMod, Nat.reduceLT, Nat.reduceLeDiff, Nat.reduceEqDiff, Nat.reduceBEq, Nat.reduceBNe, Nat.reduceGT, Int.reduceAdd, Int.reduceSub, Int.reduceMul, Int.reduceNeg, Int.reduceLT, Int.reduceLE, Int.reduceEq, Int.reduceNe, Int.reduceBEq, Int.reduceBNe, Int.reduceToNat, Int.reduceGT, Int.reduceGE, ↓reduceIte, decide_true, decide_false, eq_self, Nat.mul_one, Nat.zero_mul, Nat.one_mul, Int.le_refl, Nat.le_refl, Int.cast_ofNat_Int, hc1, hnx']
      | tab st t g =>
        simp (decide := true) (maxSteps := 4000000) only [go_sem, Nat.reduceAdd, Nat.reduceSub, Nat.reduceMul, Nat.reduceDiv, Nat.reduceMod, Nat.reduceLT, Nat.reduceLeDiff, Nat.reduceEqDiff, Nat.reduceBEq, Nat.reduceBNe, Nat.reduceGT, Int.reduceAdd, Int.reduceSub, Int.reduceMul, Int.reduceNeg, Int.reduceLT, Int.reduceLE, Int.reduceEq, Int.reduceNe, Int.reduceBEq, Int.reduceBNe, Int.reduceToNat, Int.reduceGT, Int.reduceGE, ↓reduceIte, decide_true, decide_false, eq_self, Nat.mul_one, Nat.zero_mul, Nat.one_mul, Int.le_refl, Nat.le_refl, Int.cast_ofNat_Int, hlt, hd, Ad.cs, Ad.tv, Span.t, Span.cs, m2, hr, e1, unS_eq, hok]
        refine hI1 _ ⟨k + 1, by omega⟩ (by simp only; omega) ?_
        have hnx' : ((l.take (k + 1)).map (·.at' a)).flatMap Span.cs = ((l.take k).map (·.at' a)).flatMap Span.cs ++ [.int .i64 (corr st t a).lo, .int .i64 (corr st t a).hi] := by rw [hnx, List.flatMap_append]; rfl
        simp (decide := true) (maxSteps := 4000000) only [go_sem, Nat.reduceAdd, Nat.reduceSub, Nat.reduceMul, Nat.reduceDiv, Nat.reduceMod, Nat.reduceLT, Nat.reduceLeDiff, Nat.reduceEqDiff, Nat.reduceBEq, Nat.reduceBNe, Nat.reduceGT, Int.reduceAdd, Int.reduceSub, Int.reduceMul, Int.reduceNeg, Int.reduceLT, Int.reduceLE, Int.reduceEq, Int.reduceNe, Int.reduceBEq, Int.reduceBNe, Int.reduceToNat, Int.reduceGT, Int.reduceGE, ↓reduceIte, decide_true, decide_false, eq_self, Nat.mul_one, Nat.zero_mul, Nat.one_mul, Int.le_refl, Nat.le_refl, Int.cast_ofNat_Int, hc1, hnx']
    · have hke : k = l.length := by omega
      subst hke
      simp (decide := true) (maxSteps := 4000000) only [go_sem, Nat.reduceAdd, Nat.reduceSub, Nat.reduceMul, Nat.reduceDiv, Nat.reduceMod, Nat.reduceLT, Nat.reduceLeDiff, Nat.reduceEqDiff, Nat.reduceBEq, Nat.reduceBNe, Nat.reduceGT, Int.reduceAdd, Int.reduceSub, Int.reduceMul, Int.reduceNeg, Int.reduceLT, Int.reduceLE, Int.reduceEq, Int.reduceNe, Int.reduceBEq, Int.reduceBNe, Int.reduceToNat, Int.reduceGT, Int.reduceGE, ↓reduceIte, decide_true, decide_false, eq_self, Nat.mul_one, Nat.zero_mul, Nat.one_mul, Int.le_refl, Nat.le_refl, Int.cast_ofNat_Int, hlt, List.take_length]
      refine hQ1 _ _ ?_
      have hml : (l.map (·.at' a)).length = l.length := List.length_map _
      rcases Nat.eq_zero_or_pos l.length with h0 | h0
      · have hn : l = [] := List.length_eq_zero_iff.1 h0
        subst hn
        simp (decide := true) (maxSteps := 4000000) only [go_sem, Nat.reduceAdd, Nat.reduceSub, Nat.reduceMul, Nat.reduceDiv, Nat.reduceMod, Nat.reduceLT, Nat.reduceLeDiff, Nat.reduceEqDiff, Nat.reduceBEq, Nat.reduceBNe, Nat.reduceGT, Int.reduceAdd, Int.reduceSub, Int.reduceMul, Int.reduceNeg, Int.reduceLT, Int.reduceLE, Int.reduceEq, Int.reduceNe, Int.reduceBEq, Int.reduceBNe, Int.reduceToNat, Int.reduceGT, Int.reduceGE, ↓reduceIte, decide_true, decide_false, eq_self, Nat.mul_one, Nat.zero_mul, Nat.one_mul, Int.le_refl, Nat.le_refl, Int.cast_ofNat_Int, List.take_length, h0, List.length_nil, List.map_nil, unS_nil, sumL, Span.t, Span.cs]
      · have h0' : ¬ l.length = 0 := by omega
        simp (decide := true) (maxSteps := 4000000) only [go_sem, Nat.reduceAdd, Nat.reduceSub, Nat.reduceMul, Nat.reduceDiv, Nat.reduceMod, Nat.reduceLT, Nat.reduceLeDiff, Nat.reduceEqDiff, Nat.reduceBEq, Nat.reduceBNe, Nat.reduceGT, Int.reduceAdd, Int.reduceSub, Int.reduceMul, Int.reduceNeg, Int.reduceLT, Int.reduceLE, Int.reduceEq, Int.reduceNe, Int.reduceBEq, Int.reduceBNe, Int.reduceToNat, Int.reduceGT, Int.reduceGE, ↓reduceIte, decide_true, decide_false, eq_self, Nat.mul_one, Nat.zero_mul, Nat.one_mul, Int.le_refl, Nat.le_refl, Int.cast_ofNat_Int, List.take_length, h0', unS_eq, hml, hall, h16, Span.t, Span.cs]
noncomputable def sxAdded : List TV → Option TV
  | [.int .i64 a, .sl cs n f] => match unA cs with
    | some l => if n = l.length ∧ l.all (Ad.ok a) = true ∧ l.length ≤ 16 then some (sumL (l.map (·.at' a))).t else none
    | none => none
  | _ => none
theorem sxAdded_ok : ∀ xs r, sxAdded xs = some r → PCalls Try.prog 114 xs r := by
  intro xs r h
  unfold sxAdded at h
  split at h
  · split at h
    · rename_i l hl
      split at h
      · rename_i hc; cases h
        obtain ⟨rfl, h1, h2⟩ := hc
        have := unA_some hl
        subst this
        exact sAdded_c _ l _ h1 h2
      · cases h
    · cases h
  · cases h
attribute [go_sem] sxAdded
end Go.Proofs.Ytadkjjnnnkfalaa.Sx

/- Part Se. -/
namespace Go.Proofs.Ytadkjjnnnkfalaa.Sx
end Go.Proofs.Ytadkjjnnnkfalaa.Sx
namespace Go.Proofs.Ytadkjjnnnkfalaa.Sx
open Go.RowKit Go.Pm Go.Oc Go.Oh Go.Os
set_option maxRecDepth 100000
set_option linter.unusedVariables false
set_option maxHeartbeats 4000000

noncomputable def spSi : Pm.Spec := { noSpec with mu := fun t => t == 224 }
@[go_sem] theorem spSi_p (f : FuncId) (xs : List TV) : spSi.p f xs = Pm.Spec.p ({ noSpec with mu := fun t => t == 224 }) f xs := rfl
@[go_sem] theorem spSi_h (f : FuncId) (ps : List PV) (hl : List PO) : spSi.h f ps hl = Pm.Spec.h ({ noSpec with mu := fun t => t == 224 }) f ps hl := rfl
@[go_sem] theorem spSi_y (Y : Pm.YS) (f : FuncId) (ps : List PV) (hl : List PO) : spSi.y Y f ps hl = Pm.Spec.y ({ noSpec with mu := fun t => t == 224 }) Y f ps hl := rfl
@[go_sem] theorem spSi_fz (f : FuncId) : spSi.fz f = Pm.Spec.fz ({ noSpec with mu := fun t => t == 224 }) f := rfl
@[go_sem] theorem spSi_fr (f : FuncId) : spSi.fr f = Pm.Spec.fr ({ noSpec with mu := fun t => t == 224 }) f := rfl
@[go_sem] theorem spSi_yf (f : FuncId) : spSi.yf f = Pm.Spec.yf ({ noSpec with mu := fun t => t == 224 }) f := rfl
@[go_sem] theorem spSi_mu (t : TypeId) : spSi.mu t = Pm.Spec.mu ({ noSpec with mu := fun t => t == 224 }) t := rfl
@[go_sem] theorem spSi_nf (t : TypeId) : spSi.nf t = Pm.Spec.nf ({ noSpec with mu := fun t => t == 224 }) t := rfl
theorem spSi_ok : SpecOk Try.prog spSi := ⟨noSpec_ok.1, noSpec_ok.2⟩
/-- What reading hands back, and its object. -/
def rdV (l : List Ad) : PV := .gsl 1 (l.length - 1) 1 0 l.length false
def rdO (x : Sx) (sT sS : TV) (l : List Ad) : List PO := [.box ((x.cs sT sS).map .t), .grow (l.length - 1) ((l.flatMap Ad.cs).map .t) 243 1]
theorem sReading_c (x : Sx) {sT sS : TV} (hS : IsRow Span.cs sS x.shade) (hv : sxOk x = true) (set : Nat) (hset : set < 64) : HCalls Try.prog 113 [.t (x.t sT sS), .t (.int .i64 set)] (getL []) (rdV (shA x set x.shade.length)) (getL (rdO x sT sS (shA x set x.shade.length))) := by
  have h := sxOk_iff.1 hv
  have h6 := h.sh
  have w1 : IntKind.i64.wrap (0 - x.wrong) = -x.wrong := by have := h.wr; rw [wrap_in (by omega) (by omega)]; omega
  refine hcalls_by Try.mixes spSi_ok (fn := Try.f113) Try.func113 rfl (by kernel_rfl) (by show 2 ≤ _; decide) ?_
  rcases hS with ⟨rfl, hS⟩ | ⟨f, rfl⟩
  · have e : x.shade.length = 0 := by rw [hS]; rfl
    simp (decide := true) (maxSteps := 4000000) only [go_sem, Nat.reduceAdd, Nat.reduceSub, Nat.reduceMul, Nat.reduceDiv, Nat.reduceMod, Nat.reduceLT, Nat.reduceLeDiff, Nat.reduceEqDiff, Nat.reduceBEq, Nat.reduceBNe, Nat.reduceGT, Int.reduceAdd, Int.reduceSub, Int.reduceMul, Int.reduceNeg, Int.reduceLT, Int.reduceLE, Int.reduceEq, Int.reduceNe, Int.reduceBEq, Int.reduceBNe, Int.reduceToNat, Int.reduceGT, Int.reduceGE, ↓reduceIte, decide_true, decide_false, eq_self, Nat.mul_one, Nat.zero_mul, Nat.one_mul, Int.le_refl, Nat.le_refl, Int.cast_ofNat_Int, Try.f113, Sx.t, Sx.cs, w1]
    refine pwpC_loopU (A := Unit) [1, 2, 4, 5, 20, 21] (fun _ => [(22, .t (.int .i64 0))]) (fun _ => []) (fun _ => 0) () (by decide) (fun _ => by rfl) ?_ fun Q1 hQ1 _ I1 hI1 => ?_
    · simp (decide := true) (maxSteps := 4000000) only [go_sem, Nat.reduceAdd, Nat.reduceSub, Nat.reduceMul, Nat.reduceDiv, Nat.reduceMod, Nat.reduceLT, Nat.reduceLeDiff, Nat.reduceEqDiff, Nat.reduceBEq, Nat.reduceBNe, Nat.reduceGT, Int.reduceAdd, Int.reduceSub, Int.reduceMul, Int.reduceNeg, Int.reduceLT, Int.reduceLE, Int.reduceEq, Int.reduceNe, Int.reduceBEq, Int.reduceBNe, Int.reduceToNat, Int.reduceGT, Int.reduceGE, ↓reduceIte, decide_true, decide_false, eq_self, Nat.mul_one, Nat.zero_mul, Nat.one_mul, Int.le_refl, Nat.le_refl, Int.cast_ofNat_Int]
    · simp (decide := true) (maxSteps := 4000000) only [go_sem, Nat.reduceAdd, Nat.reduceSub, Nat.reduceMul, Nat.reduceDiv, Nat.reduceMod, Nat.reduceLT, Nat.reduceLeDiff, Nat.reduceEqDiff, Nat.reduceBEq, Nat.reduceBNe, Nat.reduceGT, Int.reduceAdd, Int.reduceSub, Int.reduceMul, Int.reduceNeg, Int.reduceLT, Int.reduceLE, Int.reduceEq, Int.reduceNe, Int.reduceBEq, Int.reduceBNe, Int.reduceToNat, Int.reduceGT, Int.reduceGE, ↓reduceIte, decide_true, decide_false, eq_self, Nat.mul_one, Nat.zero_mul, Nat.one_mul, Int.le_refl, Nat.le_refl, Int.cast_ofNat_Int]
      refine hQ1 _ _ ?_
      simp (decide := true) (maxSteps := 4000000) only [go_sem, Nat.reduceAdd, Nat.reduceSub, Nat.reduceMul, Nat.reduceDiv, Nat.reduceMod, Nat.reduceLT, Nat.reduceLeDiff, Nat.reduceEqDiff, Nat.reduceBEq, Nat.reduceBNe, Nat.reduceGT, Int.reduceAdd, Int.reduceSub, Int.reduceMul, Int.reduceNeg, Int.reduceLT, Int.reduceLE, Int.reduceEq, Int.reduceNe, Int.reduceBEq, Int.reduceBNe, Int.reduceToNat, Int.reduceGT, Int.reduceGE, ↓reduceIte, decide_true, decide_false, eq_self, Nat.mul_one, Nat.zero_mul, Nat.one_mul, Int.le_refl, Nat.le_refl, Int.cast_ofNat_Int, e, shA, List.range_zero, List.filter_nil, List.map_nil, Ad.cs, Ad.tv, Span.t, Span.cs, rdV, rdO, Sx.cs]
      exact ⟨_, rfl, rfl⟩
  · simp (decide := true) (maxSteps := 4000000) only [go_sem, Nat.reduceAdd, Nat.reduceSub, Nat.reduceMul, Nat.reduceDiv, Nat.reduceMod, Nat.reduceLT, Nat.reduceLeDiff, Nat.reduceEqDiff, Nat.reduceBEq, Nat.reduceBNe, Nat.reduceGT, Int.reduceAdd, Int.reduceSub, Int.reduceMul, Int.reduceNeg, Int.reduceLT, Int.reduceLE, Int.reduceEq, Int.reduceNe, Int.reduceBEq, Int.reduceBNe, Int.reduceToNat, Int.reduceGT, Int.reduceGE, ↓reduceIte, decide_true, decide_false, eq_self, Nat.mul_one, Nat.zero_mul, Nat.one_mul, Int.le_refl, Nat.le_refl, Int.cast_ofNat_Int, Try.f113, Sx.t, Sx.cs, w1]
    refine pwpC_loopU (A := { k : Nat // k ≤ x.shade.length }) [1, 2, 4, 20, 21] (fun k => [(22, .t (.int .i64 k.1)), (5, .gsl 1 ((shA x set k.1).length - 1) 1 0 (shA x set k.1).length false)]) (fun k => [(1, .grow ((shA x set k.1).length - 1) (((shA x set k.1).flatMap Ad.cs).map .t) 243 1)]) (fun k => x.shade.length - k.1) ⟨0, by omega⟩ (by decide) (fun _ => by rfl) ?_ fun Q1 hQ1 ⟨k, hk⟩ I1 hI1 => ?_
    · simp (decide := true) (maxSteps := 4000000) only [go_sem, Nat.reduceAdd, Nat.reduceSub, Nat.reduceMul, Nat.reduceDiv, Nat.reduceMod, Nat.reduceLT, Nat.reduceLeDiff, Nat.reduceEqDiff, Nat.reduceBEq, Nat.reduceBNe, Nat.reduceGT, Int.reduceAdd, Int.reduceSub, Int.reduceMul, Int.reduceNeg, Int.reduceLT, Int.reduceLE, Int.reduceEq, Int.reduceNe, Int.reduceBEq, Int.reduceBNe, Int.reduceToNat, Int.reduceGT, Int.reduceGE, ↓reduceIte, decide_true, decide_false, eq_self, Nat.mul_one, Nat.zero_mul, Nat.one_mul, Int.le_refl, Nat.le_refl, Int.cast_ofNat_Int, shA, List.range_zero, List.filter_nil, Ad.cs, Ad.tv, Span.t, Span.cs]
    · by_cases hlt : (k : Int) < x.shade.length
      · obtain ⟨s, hs⟩ := get_lt hlt
        have hd := flat_at Span.cs (n := 2) (fun _ => rfl) hs
        have hc1 : IntKind.i64.wrap (k + 1) = ((k + 1 : Nat) : Int) := by rw [wrap_in (by omega) (by omega)]; omega
        have hbit := bit_shade set hset k (by omega)
        have hk0 : ¬ (k : Int) < 0 := by omega
        have hes := atS_eq hs
        have hln := shA_len x set k
        have hfl : (((shA x set k).flatMap Ad.cs).map PV.t).length = (shA x set k).length := by rw [List.length_map, flat_len Ad.cs (n := 1) (fun _ => rfl), Nat.mul_one]
        have hr : ((shA x set k).length + 1) * 16 ≤ 140737488355328 := by omega
        cases hb : set.testBit k with
        | false =>
          rw [hb] at hbit
          simp (decide := true) (maxSteps := 4000000) only [go_sem, Nat.reduceAdd, Nat.reduceSub, Nat.reduceMul, Nat.reduceDiv, Nat.reduceMod, Nat.reduceLT, Nat.reduceLeDiff, Nat.reduceEqDiff, Nat.reduceBEq, Nat.reduceBNe, Nat.reduceGT, Int.reduceAdd, Int.reduceSub, Int.reduceMul, Int.reduceNeg, Int.reduceLT, Int.reduceLE, Int.reduceEq, Int.reduceNe, Int.reduceBEq, Int.reduceBNe, Int.reduceToNat, Int.reduceGT, Int.reduceGE, ↓reduceIte, decide_true, decide_false, eq_self, Nat.mul_one, Nat.zero_mul, Nat.one_mul, Int.le_refl, Nat.le_refl, Int.cast_ofNat_Int, hlt, hd, Span.cs, hk0]
          refine condC_splitB (fun ht => (by cases hbit.symm.trans ht)) (fun _ => ?_)
          simp (decide := true) (maxSteps := 4000000) only [go_sem, Nat.reduceAdd, Nat.reduceSub, Nat.reduceMul, Nat.reduceDiv, Nat.reduceMod, Nat.reduceLT, Nat.reduceLeDiff, Nat.reduceEqDiff, Nat.reduceBEq, Nat.reduceBNe, Nat.reduceGT, Int.reduceAdd, Int.reduceSub, Int.reduceMul, Int.reduceNeg, Int.reduceLT, Int.reduceLE, Int.reduceEq, Int.reduceNe, Int.reduceBEq, Int.reduceBNe, Int.reduceToNat, Int.reduceGT, Int.reduceGE, ↓reduceIte, decide_true, decide_false, eq_self, Nat.mul_one, Nat.zero_mul, Nat.one_mul, Int.le_refl, Nat.le_refl, Int.cast_ofNat_Int]
          refine hI1 _ ⟨k + 1, by omega⟩ (by simp only; omega) ?_
          simp (decide := true) (maxSteps := 4000000) only [go_sem, Nat.reduceAdd, Nat.reduceSub, Nat.reduceMul, Nat.reduceDiv, Nat.reduceMod, Nat.reduceLT, Nat.reduceLeDiff, Nat.reduceEqDiff, Nat.reduceBEq, Nat.reduceBNe, Nat.reduceGT, Int.reduceAdd, Int.reduceSub, Int.reduceMul, Int.reduceNeg, Int.reduceLT, Int.reduceLE, Int.reduceEq, Int.reduceNe, Int.reduceBEq, Int.reduceBNe, Int.reduceToNat, Int.reduceGT, Int.reduceGE, ↓reduceIte, decide_true, decide_false, eq_self, Nat.mul_one, Nat.zero_mul, Nat.one_mul, Int.le_refl, Nat.le_refl, Int.cast_ofNat_Int, hc1, shA_f hb]
        | true =>
          rw [hb] at hbit
          simp (decide := true) (maxSteps := 4000000) only [go_sem, Nat.reduceAdd, Nat.reduceSub, Nat.reduceMul, Nat.reduceDiv, Nat.reduceMod, Nat.reduceLT, Nat.reduceLeDiff, Nat.reduceEqDiff, Nat.reduceBEq, Nat.reduceBNe, Nat.reduceGT, Int.reduceAdd, Int.reduceSub, Int.reduceMul, Int.reduceNeg, Int.reduceLT, Int.reduceLE, Int.reduceEq, Int.reduceNe, Int.reduceBEq, Int.reduceBNe, Int.reduceToNat, Int.reduceGT, Int.reduceGE, ↓reduceIte, decide_true, decide_false, eq_self, Nat.mul_one, Nat.zero_mul, Nat.one_mul, Int.le_refl, Nat.le_refl, Int.cast_ofNat_Int, hlt, hd, Span.cs, hk0]
          refine condC_splitB (fun _ => ?_) (fun ht => (by cases hbit.symm.trans ht))
          simp (decide := true) (maxSteps := 4000000) only [go_sem, Nat.reduceAdd, Nat.reduceSub, Nat.reduceMul, Nat.reduceDiv, Nat.reduceMod, Nat.reduceLT, Nat.reduceLeDiff, Nat.reduceEqDiff, Nat.reduceBEq, Nat.reduceBNe, Nat.reduceGT, Int.reduceAdd, Int.reduceSub, Int.reduceMul, Int.reduceNeg, Int.reduceLT, Int.reduceLE, Int.reduceEq, Int.reduceNe, Int.reduceBEq, Int.reduceBNe, Int.reduceToNat, Int.reduceGT, Int.reduceGE, ↓reduceIte, decide_true, decide_false, eq_self, Nat.mul_one, Nat.zero_mul, Nat.one_mul, Int.le_refl, Nat.le_refl, Int.cast_ofNat_Int, hfl, hr]
          refine hI1 _ ⟨k + 1, by omega⟩ (by simp only; omega) ?_
          have e1 : (shA x set (k + 1)).length = (shA x set k).length + 1 := by rw [shA_t hb]; simp
          have e2 : (shA x set k).length + 1 - 1 = (shA x set k).length - 1 + 1 := by omega
          have e3 : ((shA x set k).flatMap Ad.cs).map PV.t ++ [.t (.ifc 226 (.agg [.int .i64 s.lo, .int .i64 s.hi]))] = ((shA x set (k + 1)).flatMap Ad.cs).map PV.t := by
            rw [shA_t hb, List.flatMap_append, List.map_append, hes]; rfl
          simp (decide := true) (maxSteps := 4000000) only [go_sem, Nat.reduceAdd, Nat.reduceSub, Nat.reduceMul, Nat.reduceDiv, Nat.reduceMod, Nat.reduceLT, Nat.reduceLeDiff, Nat.reduceEqDiff, Nat.reduceBEq, Nat.reduceBNe, Nat.reduceGT, Int.reduceAdd, Int.reduceSub, Int.reduceMul, Int.reduceNeg, Int.reduceLT, Int.reduceLE, Int.reduceEq, Int.reduceNe, Int.reduceBEq, Int.reduceBNe, Int.reduceToNat, Int.reduceGT, Int.reduceGE, ↓reduceIte, decide_true, decide_false, eq_self, Nat.mul_one, Nat.zero_mul, Nat.one_mul, Int.le_refl, Nat.le_refl, Int.cast_ofNat_Int, hc1, e1, e2, e3]
      · have hke : k = x.shade.length := by omega
        subst hke
        simp (decide := true) (maxSteps := 4000000) only [go_sem, Nat.reduceAdd, Nat.reduceSub, Nat.reduceMul, Nat.reduceDiv, Nat.reduceMod, Nat.reduceLT, Nat.reduceLeDiff, Nat.reduceEqDiff, Nat.reduceBEq, Nat.reduceBNe, Nat.reduceGT, Int.reduceAdd, Int.reduceSub, Int.reduceMul, Int.reduceNeg, Int.reduceLT, Int.reduceLE, Int.reduceEq, Int.reduceNe, Int.reduceBEq, Int.reduceBNe, Int.reduceToNat, Int.reduceGT, Int.reduceGE, ↓reduceIte, decide_true, decide_false, eq_self, Nat.mul_one, Nat.zero_mul, Nat.one_mul, Int.le_refl, Nat.le_refl, Int.cast_ofNat_Int, hlt]
        refine hQ1 _ _ ?_
        simp (decide := true) (maxSteps := 4000000) only [go_sem, Nat.reduceAdd, Nat.reduceSub, Nat.reduceMul, Nat.reduceDiv, Nat.reduceMod, Nat.reduceLT, Nat.reduceLeDiff, Nat.reduceEqDiff, Nat.reduceBEq, Nat.reduceBNe, Nat.reduceGT, Int.reduceAdd, Int.reduceSub, Int.reduceMul, Int.reduceNeg, Int.reduceLT, Int.reduceLE, Int.reduceEq, Int.reduceNe, Int.reduceBEq, Int.reduceBNe, Int.reduceToNat, Int.reduceGT, Int.reduceGE, ↓reduceIte, decide_true, decide_false, eq_self, Nat.mul_one, Nat.zero_mul, Nat.one_mul, Int.le_refl, Nat.le_refl, Int.cast_ofNat_Int, rdV, rdO, Sx.cs]
        exact ⟨_, rfl, rfl⟩
noncomputable def sxReading : List PV → List PO → Option (PV × List PO)
  | [.t (.agg [.int .i64 a0, sT, .int .i64 a1, .int .i64 a2, .int .i64 a3, sS]), .t (.int .i64 set)], [] => match rowL unS sT, rowL unS sS with
    | some tab, some shade => if sxOk ⟨a0, tab, ⟨a1, a2⟩, a3, shade⟩ = true ∧ 0 ≤ set ∧ set < 64 then
        some (rdV (shA ⟨a0, tab, ⟨a1, a2⟩, a3, shade⟩ set.toNat shade.length), rdO ⟨a0, tab, ⟨a1, a2⟩, a3, shade⟩ sT sS (shA ⟨a0, tab, ⟨a1, a2⟩, a3, shade⟩ set.toNat shade.length)) else none
    | _, _ => none
  | _, _ => none
theorem sxReading_ok : ∀ xs hl r hl', sxReading xs hl = some (r, hl') → HCalls Try.prog 113 xs (getL hl) r (getL hl') := by
  intro xs hl r hl' h
  unfold sxReading at h
  split at h
  · rename_i a0 sT a1 a2 a3 sS set
    split at h
    · rename_i tab shade hT hS
      have hS := rowL_some (un := unS) unS_nil (@unS_some) hS
      split at h
      · rename_i hc
        simp only [Option.some.injEq, Prod.mk.injEq] at h
        obtain ⟨rfl, rfl⟩ := h
        have := sReading_c ⟨a0, tab, ⟨a1, a2⟩, a3, shade⟩ (sT := sT) hS hc.1 set.toNat (by omega)
        rw [Int.toNat_of_nonneg hc.2.1] at this
        exact this
      · cases h
    · cases h
  · cases h
attribute [go_sem] sxReading
noncomputable def spSj : Pm.Spec := Spec.oneH 113 sxReading { (noSpec.one 114 sxAdded) with mu := fun t => t == 224, fr := fun f => f == 114 }
@[go_sem] theorem spSj_p (f : FuncId) (xs : List TV) : spSj.p f xs = Pm.Spec.p (Spec.oneH 113 sxReading { (noSpec.one 114 sxAdded) with mu := fun t => t == 224, fr := fun f => f == 114 }) f xs := rfl
@[go_sem] theorem spSj_h (f : FuncId) (ps : List PV) (hl : List PO) : spSj.h f ps hl = Pm.Spec.h (Spec.oneH 113 sxReading { (noSpec.one 114 sxAdded) with mu := fun t => t == 224, fr := fun f => f == 114 }) f ps hl := rfl
@[go_sem] theorem spSj_y (Y : Pm.YS) (f : FuncId) (ps : List PV) (hl : List PO) : spSj.y Y f ps hl = Pm.Spec.y (Spec.oneH 113 sxReading { (noSpec.one 114 sxAdded) with mu := fun t => t == 224, fr := fun f => f == 114 }) Y f ps hl := rfl
@[go_sem] theorem spSj_fz (f : FuncId) : spSj.fz f = Pm.Spec.fz (Spec.oneH 113 sxReading { (noSpec.one 114 sxAdded) with mu := fun t => t == 224, fr := fun f => f == 114 }) f := rfl
@[go_sem] theorem spSj_fr (f : FuncId) : spSj.fr f = Pm.Spec.fr (Spec.oneH 113 sxReading { (noSpec.one 114 sxAdded) with mu := fun t => t == 224, fr := fun f => f == 114 }) f := rfl
@[go_sem] theorem spSj_yf (f : FuncId) : spSj.yf f = Pm.Spec.yf (Spec.oneH 113 sxReading { (noSpec.one 114 sxAdded) with mu := fun t => t == 224, fr := fun f => f == 114 }) f := rfl
@[go_sem] theorem spSj_mu (t : TypeId) : spSj.mu t = Pm.Spec.mu (Spec.oneH 113 sxReading { (noSpec.one 114 sxAdded) with mu := fun t => t == 224, fr := fun f => f == 114 }) t := rfl
@[go_sem] theorem spSj_nf (t : TypeId) : spSj.nf t = Pm.Spec.nf (Spec.oneH 113 sxReading { (noSpec.one 114 sxAdded) with mu := fun t => t == 224, fr := fun f => f == 114 }) t := rfl
theorem spSj_ok : SpecOk Try.prog spSj := Spec.oneH_ok sxReading_ok ⟨(Spec.one_ok sxAdded_ok noSpec_ok).1, (Spec.one_ok sxAdded_ok noSpec_ok).2⟩
theorem sTruth_c (x : Sx) {sT sS : TV} (hT : IsRow Span.cs sT x.tab) (hS : IsRow Span.cs sS x.shade) (hv : sxOk x = true) (a s : Int) (hr : isRd x a s = true) : PCalls Try.prog 74 [x.t sT sS, .agg [.int .i64 a, .int .i64 s]] (readS x a s.toNat).t := by
  have h := sxOk_iff.1 hv
  obtain ⟨hr1, hr2⟩ := isRd_iff.1 hr
  have hp := pow_len h.sh
  have hs64 : 0 ≤ s ∧ s < 64 := by omega
  have rS := rowS_is hS
  unfold rowL at rS
  simp only [unS_nil] at rS
  obtain ⟨f, rfl⟩ := good_T h hT
  refine pcalls_by Try.mixes spSj_ok (fn := Try.f74) Try.func74 rfl (by kernel_rfl) (by show 2 ≤ _; decide) ?_
  have e0 : Sx.mk x.step x.tab ⟨x.idx.lo, x.idx.hi⟩ x.wrong x.shade = x := rfl
  have hln := shA_len x s.toNat x.shade.length
  obtain ⟨L, hL⟩ : ∃ L, shA x s.toNat x.shade.length = L := ⟨_, rfl⟩
  rw [hL] at hln
  have h6 := h.sh
  have hfl : ((L.flatMap Ad.cs).map PV.t).length = L.length := by rw [List.length_map, flat_len Ad.cs (n := 1) (fun _ => rfl), Nat.mul_one]
  have hm : (L.length + 3) * 16 ≤ 140737488355328 := by omega
  obtain ⟨L', hL'⟩ : ∃ L', L ++ [.fix x.idx, .tab x.step x.tab f, .fix ⟨a, a⟩] = L' := ⟨_, rfl⟩
  have hll : L.length + 3 = L'.length := by rw [← hL']; simp
  have hcat : List.map PV.t (L.flatMap Ad.cs) ++ [.t (.ifc 226 (.agg [.int .i64 x.idx.lo, .int .i64 x.idx.hi])), .t (.ifc 228 (.agg [.int .i64 x.step, .sl (x.tab.flatMap Span.cs) x.tab.length f])), .t (.ifc 226 (.agg [.int .i64 a, .int .i64 a]))] = List.map PV.t (L'.flatMap Ad.cs) := by
    rw [← hL', List.flatMap_append, List.map_append]; rfl
  have htk : List.take L'.length (L'.flatMap Ad.cs) = L'.flatMap Ad.cs := List.take_of_length_le (by rw [flat_len Ad.cs (n := 1) (fun _ => rfl)]; omega)
  have hlen : (List.map PV.t (L'.flatMap Ad.cs)).length = L'.length := by rw [List.length_map, flat_len Ad.cs (n := 1) (fun _ => rfl), Nat.mul_one]
  have hlen2 : (L'.flatMap Ad.cs).length = L'.length := by rw [flat_len Ad.cs (n := 1) (fun _ => rfl), Nat.mul_one]
  have h16 : L'.length ≤ 16 := by omega
  have hlb := last_b h
  have hok : L'.all (Ad.ok a) = true := by
    have h1 := shA_ok h s.toNat a x.shade.length (Nat.le_refl _)
    rw [hL] at h1
    have h2 : bdB x.idx = true := bdB_iff.2 (by have := h.idx; omega)
    have h3 : bdB ⟨a, a⟩ = true := bdB_iff.2 (by simp only; omega)
    have h4 : inB x.step 1 72000 = true := inB_iff.2 h.st
    have h5 : (decide (1 ≤ x.tab.length ∧ x.tab.length ≤ 9000000000000)) = true := decide_eq_true (by have := h.len; omega)
    have h6 : x.tab.all (spannedB · (-600) 600) = true := List.all_eq_true.2 fun s hs => spannedB_iff.2 (h.tab s hs)
    have h7 : decide (0 ≤ a ∧ a ≤ 504000) = true := decide_eq_true (by omega)
    have h8 : decide (a ≤ x.step * (x.tab.length - 1)) = true := decide_eq_true hr1.2
    rw [← hL', List.all_append, h1]
    simp [Ad.ok, h2, h3, h4, h5, h6, h7, h8]
  have hsum : sumL (L'.map (·.at' a)) = readS x a s.toNat := by
    have h1 := shA_sum x s.toNat a x.shade.length
    rw [hL] at h1
    rw [← hL', List.map_append]
    unfold sumL at h1 ⊢
    rw [List.foldl_append, h1]
    simp only [List.map_cons, List.map_nil, List.foldl_cons, List.foldl_nil, Ad.at', addS, readS, shs]
    congr 1 <;> omega
  rw [hll] at hm
  simp (decide := true) (maxSteps := 4000000) only [go_sem, Nat.reduceAdd, Nat.reduceSub, Nat.reduceMul, Nat.reduceDiv, Nat.reduceMod, Nat.reduceLT, Nat.reduceLeDiff, Nat.reduceEqDiff, Nat.reduceBEq, Nat.reduceBNe, Nat.reduceGT, Int.reduceAdd, Int.reduceSub, Int.reduceMul, Int.reduceNeg, Int.reduceLT, Int.reduceLE, Int.reduceEq, Int.reduceNe, Int.reduceBEq, Int.reduceBNe, Int.reduceToNat, Int.reduceGT, Int.reduceGE, ↓reduceIte, decide_true, decide_false, eq_self, Nat.mul_one, Nat.zero_mul, Nat.one_mul, Int.le_refl, Nat.le_refl, Int.cast_ofNat_Int, Try.f74, Sx.t, Sx.cs, unS_eq, rS, hv, hs64, e0, hL, rdV, rdO, hfl, hm, hcat, hll, freezeW, freezeO, closedG, seenF, wr, upo, List.flatMap_append, htk, hlen, hlen2, h16, hok, hsum, List.drop_zero, Nat.mul_one, Nat.zero_add, Nat.zero_mul, Span.t, Span.cs]
noncomputable def sxTruth : List TV → Option TV
  | [.agg [.int .i64 a0, sT, .int .i64 a1, .int .i64 a2, .int .i64 a3, sS], .agg [.int .i64 p, .int .i64 q]] => match rowL unS sT, rowL unS sS with
    | some tab, some shade => if sxOk (⟨a0, tab, ⟨a1, a2⟩, a3, shade⟩ : Sx) = true ∧ isRd (⟨a0, tab, ⟨a1, a2⟩, a3, shade⟩ : Sx) p q = true then some ((readS (⟨a0, tab, ⟨a1, a2⟩, a3, shade⟩ : Sx) p q.toNat).t) else none
    | _, _ => none
  | _ => none
theorem sxTruth_ok : ∀ xs r, sxTruth xs = some r → PCalls Try.prog 74 xs r := by
  intro xs r h
  unfold sxTruth at h
  split at h
  · split at h
    · rename_i tab shade hT hS
      have hT := rowL_some (un := unS) unS_nil (@unS_some) hT
      have hS := rowL_some (un := unS) unS_nil (@unS_some) hS
      split at h
      · rename_i hc; cases h; exact sTruth_c ⟨_, tab, ⟨_, _⟩, _, shade⟩ hT hS hc.1 _ _ hc.2
      · cases h
    · cases h
  · cases h
attribute [go_sem] sxTruth
noncomputable def spSk : Pm.Spec := (((spSa.one 43 sxCheck).one 73 sxIsReading).one 74 sxTruth)
@[go_sem] theorem spSk_p (f : FuncId) (xs : List TV) : spSk.p f xs = Pm.Spec.p ((((spSa.one 43 sxCheck).one 73 sxIsReading).one 74 sxTruth)) f xs := rfl
@[go_sem] theorem spSk_h (f : FuncId) (ps : List PV) (hl : List PO) : spSk.h f ps hl = Pm.Spec.h ((((spSa.one 43 sxCheck).one 73 sxIsReading).one 74 sxTruth)) f ps hl := rfl
@[go_sem] theorem spSk_y (Y : Pm.YS) (f : FuncId) (ps : List PV) (hl : List PO) : spSk.y Y f ps hl = Pm.Spec.y ((((spSa.one 43 sxCheck).one 73 sxIsReading).one 74 sxTruth)) Y f ps hl := rfl
@[go_sem] theorem spSk_fz (f : FuncId) : spSk.fz f = Pm.Spec.fz ((((spSa.one 43 sxCheck).one 73 sxIsReading).one 74 sxTruth)) f := rfl
@[go_sem] theorem spSk_fr (f : FuncId) : spSk.fr f = Pm.Spec.fr ((((spSa.one 43 sxCheck).one 73 sxIsReading).one 74 sxTruth)) f := rfl
@[go_sem] theorem spSk_yf (f : FuncId) : spSk.yf f = Pm.Spec.yf ((((spSa.one 43 sxCheck).one 73 sxIsReading).one 74 sxTruth)) f := rfl
@[go_sem] theorem spSk_mu (t : TypeId) : spSk.mu t = Pm.Spec.mu ((((spSa.one 43 sxCheck).one 73 sxIsReading).one 74 sxTruth)) t := rfl
@[go_sem] theorem spSk_nf (t : TypeId) : spSk.nf t = Pm.Spec.nf ((((spSa.one 43 sxCheck).one 73 sxIsReading).one 74 sxTruth)) t := rfl
theorem spSk_ok : SpecOk Try.prog spSk := Spec.one_ok sxTruth_ok (Spec.one_ok sxIsReading_ok (Spec.one_ok sxCheck_ok spSa_ok))
theorem sRead_c (x : Sx) {sT sS : TV} (hT : IsRow Span.cs sT x.tab) (hS : IsRow Span.cs sS x.shade) (lT : x.tab.length ≤ 9000000000000) (lS : x.shade.length ≤ 9000000000000) (a s : Int) : PCalls Try.prog 34 [x.t sT sS, .agg [.int .i64 a, .int .i64 s]] (.tup [(readP x a s).1.t, .int .i64 (readP x a s).2]) := by
  have rT := rowS_is hT
  have rS := rowS_is hS
  unfold rowL at rT rS
  simp only [unS_nil] at rT rS
  have e0 : Sx.mk x.step x.tab ⟨x.idx.lo, x.idx.hi⟩ x.wrong x.shade = x := rfl
  refine pcalls_by Try.mixes spSk_ok (fn := Try.f34) Try.func34 rfl (by kernel_rfl) (by show 2 ≤ _; decide) ?_
  unfold readP
  cases hv : sxOk x with
  | false =>
    have b : ((50 : Int) != 0) = true := rfl
    simp (decide := true) (maxSteps := 4000000) only [go_sem, Nat.reduceAdd, Nat.reduceSub, Nat.reduceMul, Nat.reduceDiv, Nat.reduceMod, Nat.reduceLT, Nat.reduceLeDiff, Nat.reduceEqDiff, Nat.reduceBEq, Nat.reduceBNe, Nat.reduceGT, Int.reduceAdd, Int.reduceSub, Int.reduceMul, Int.reduceNeg, Int.reduceLT, Int.reduceLE, Int.reduceEq, Int.reduceNe, Int.reduceBEq, Int.reduceBNe, Int.reduceToNat, Int.reduceGT, Int.reduceGE, ↓reduceIte, decide_true, decide_false, eq_self, Nat.mul_one, Nat.zero_mul, Nat.one_mul, Int.le_refl, Nat.le_refl, Int.cast_ofNat_Int, Try.f34, Sx.t, Sx.cs, rT, rS, lT, lS, e0, hv, b, Span.t, Span.cs]
  | true =>
    have b : ((0 : Int) != 0) = false := rfl
    cases hr : isRd x a s <;> simp (decide := true) (maxSteps := 4000000) only [go_sem, Nat.reduceAdd, Nat.reduceSub, Nat.reduceMul, Nat.reduceDiv, Nat.reduceMod, Nat.reduceLT, Nat.reduceLeDiff, Nat.reduceEqDiff, Nat.reduceBEq, Nat.reduceBNe, Nat.reduceGT, Int.reduceAdd, Int.reduceSub, Int.reduceMul, Int.reduceNeg, Int.reduceLT, Int.reduceLE, Int.reduceEq, Int.reduceNe, Int.reduceBEq, Int.reduceBNe, Int.reduceToNat, Int.reduceGT, Int.reduceGE, ↓reduceIte, decide_true, decide_false, eq_self, Nat.mul_one, Nat.zero_mul, Nat.one_mul, Int.le_refl, Nat.le_refl, Int.cast_ofNat_Int, Try.f34, Sx.t, Sx.cs, rT, rS, lT, lS, e0, hv, hr, b, Span.t, Span.cs]
noncomputable def sxRead : List TV → Option TV
  | [.agg [.int .i64 a0, sT, .int .i64 a1, .int .i64 a2, .int .i64 a3, sS], .agg [.int .i64 p, .int .i64 q]] => match rowL unS sT, rowL unS sS with
    | some tab, some shade => if tab.length ≤ 9000000000000 ∧ shade.length ≤ 9000000000000 then some (.tup [(readP (⟨a0, tab, ⟨a1, a2⟩, a3, shade⟩ : Sx) p q).1.t, .int .i64 (readP (⟨a0, tab, ⟨a1, a2⟩, a3, shade⟩ : Sx) p q).2]) else none
    | _, _ => none
  | _ => none
theorem sxRead_ok : ∀ xs r, sxRead xs = some r → PCalls Try.prog 34 xs r := by
  intro xs r h
  unfold sxRead at h
  split at h
  · split at h
    · rename_i tab shade hT hS
      have hT := rowL_some (un := unS) unS_nil (@unS_some) hT
      have hS := rowL_some (un := unS) unS_nil (@unS_some) hS
      split at h
      · rename_i hc; cases h; exact sRead_c ⟨_, tab, ⟨_, _⟩, _, shade⟩ hT hS hc.1 hc.2 _ _
      · cases h
    · cases h
  · cases h
attribute [go_sem] sxRead
end Go.Proofs.Ytadkjjnnnkfalaa.Sx

/- Part THa. -/
namespace Go.Proofs.Ytadkjjnnnkfalaa
open Go.RowKit Go.Pm Go.Oc Go.Oh Go.Os
set_option maxRecDepth 100000
set_option linter.unusedVariables false
set_option maxHeartbeats 4000000

theorem tSpan_c (a b : Int) : PCalls Try.prog 37 [.int .i64 a, .int .i64 b] (.agg [.int .i64 a, .int .i64 b]) := by
  refine pcalls_by Try.mixes noSpec_ok (fn := Try.f37) Try.func37 rfl (by kernel_rfl) (by show 2 ≤ _; decide) ?_
  simp (decide := true) (maxSteps := 4000000) only [go_sem, Nat.reduceAdd, Nat.reduceSub, Nat.reduceMul, Nat.reduceDiv, Nat.reduceMod, Nat.reduceLT, Nat.reduceLeDiff, Nat.reduceEqDiff, Nat.reduceBEq, Nat.reduceBNe, Nat.reduceGT, Int.reduceAdd, Int.reduceSub, Int.reduceMul, Int.reduceNeg, Int.reduceLT, Int.reduceLE, Int.reduceEq, Int.reduceNe, Int.reduceBEq, Int.reduceBNe, Int.reduceToNat, Int.reduceGT, Int.reduceGE, ↓reduceIte, decide_true, decide_false, eq_self, Nat.mul_one, Nat.zero_mul, Nat.one_mul, Int.le_refl, Nat.le_refl, Int.cast_ofNat_Int, Try.f37]
noncomputable def txSpan : List TV → Option TV
  | [.int .i64 a, .int .i64 b] => some (.agg [.int .i64 a, .int .i64 b])
  | _ => none
theorem txSpan_ok : ∀ xs r, txSpan xs = some r → PCalls Try.prog 37 xs r := by
  intro xs r h
  unfold txSpan at h
  split at h
  · cases h; exact tSpan_c _ _
  · cases h
attribute [go_sem] txSpan
noncomputable def spT1 : Pm.Spec := ((((((Sx.spH.one 41 Ix.xCut).one 38 Lv.glClicks).one 32 Lv.glCan).one 33 Lv.glTilt).one 34 Sx.sxRead).one 37 txSpan)
@[go_sem] theorem spT1_p (f : FuncId) (xs : List TV) : spT1.p f xs = Pm.Spec.p (((((((Sx.spH.one 41 Ix.xCut).one 38 Lv.glClicks).one 32 Lv.glCan).one 33 Lv.glTilt).one 34 Sx.sxRead).one 37 txSpan)) f xs := rfl
@[go_sem] theorem spT1_h (f : FuncId) (ps : List PV) (hl : List PO) : spT1.h f ps hl = Pm.Spec.h (((((((Sx.spH.one 41 Ix.xCut).one 38 Lv.glClicks).one 32 Lv.glCan).one 33 Lv.glTilt).one 34 Sx.sxRead).one 37 txSpan)) f ps hl := rfl
@[go_sem] theorem spT1_y (Y : Pm.YS) (f : FuncId) (ps : List PV) (hl : List PO) : spT1.y Y f ps hl = Pm.Spec.y (((((((Sx.spH.one 41 Ix.xCut).one 38 Lv.glClicks).one 32 Lv.glCan).one 33 Lv.glTilt).one 34 Sx.sxRead).one 37 txSpan)) Y f ps hl := rfl
@[go_sem] theorem spT1_fz (f : FuncId) : spT1.fz f = Pm.Spec.fz (((((((Sx.spH.one 41 Ix.xCut).one 38 Lv.glClicks).one 32 Lv.glCan).one 33 Lv.glTilt).one 34 Sx.sxRead).one 37 txSpan)) f := rfl
@[go_sem] theorem spT1_fr (f : FuncId) : spT1.fr f = Pm.Spec.fr (((((((Sx.spH.one 41 Ix.xCut).one 38 Lv.glClicks).one 32 Lv.glCan).one 33 Lv.glTilt).one 34 Sx.sxRead).one 37 txSpan)) f := rfl
@[go_sem] theorem spT1_yf (f : FuncId) : spT1.yf f = Pm.Spec.yf (((((((Sx.spH.one 41 Ix.xCut).one 38 Lv.glClicks).one 32 Lv.glCan).one 33 Lv.glTilt).one 34 Sx.sxRead).one 37 txSpan)) f := rfl
@[go_sem] theorem spT1_mu (t : TypeId) : spT1.mu t = Pm.Spec.mu (((((((Sx.spH.one 41 Ix.xCut).one 38 Lv.glClicks).one 32 Lv.glCan).one 33 Lv.glTilt).one 34 Sx.sxRead).one 37 txSpan)) t := rfl
@[go_sem] theorem spT1_nf (t : TypeId) : spT1.nf t = Pm.Spec.nf (((((((Sx.spH.one 41 Ix.xCut).one 38 Lv.glClicks).one 32 Lv.glCan).one 33 Lv.glTilt).one 34 Sx.sxRead).one 37 txSpan)) t := rfl
theorem spT1_ok : SpecOk Try.prog spT1 := Spec.one_ok txSpan_ok (Spec.one_ok Sx.sxRead_ok (Spec.one_ok Lv.glTilt_ok (Spec.one_ok Lv.glCan_ok (Spec.one_ok Lv.glClicks_ok (Spec.one_ok Ix.xCut_ok Sx.spH_ok)))))
theorem exCut : Ix.cutE 1 [4] 0 2 = ([0, 2], 0, 0) := by decide +kernel
theorem exClicks : Lv.clicksP ⟨200, 312⟩ 20 60 = (-13, 0) := by decide +kernel
theorem exRd : readP ⟨100, [⟨0, 0⟩, ⟨0, 0⟩], ⟨0, 0⟩, 2, []⟩ 50 0 = (⟨48, 52⟩, 0) := by decide +kernel
theorem tLimb_c : PCalls Try.prog 35 [] (.bool true) := by
  have u1 : Go.Oc.Ix.unI [.int .i64 4] = some [4] := rfl
  have u2 : Go.Oh.unI [.int .i64 0, .int .i64 2] = some [0, 2] := Go.Oh.unI_eq [0, 2]
  have g1 : Go.Oc.Ix.rowG Go.Oc.Ix.ic [0, 2] = .sl [.int .i64 0, .int .i64 2] 2 false := rfl
  have s1 : unS [.int .i64 0, .int .i64 0, .int .i64 0, .int .i64 0] = some [⟨0, 0⟩, ⟨0, 0⟩] := unS_eq [⟨0, 0⟩, ⟨0, 0⟩]
  have s2 : unS [] = some [] := unS_nil
  refine pcalls_by Try.mixes spT1_ok (fn := Try.f35) Try.func35 rfl (by kernel_rfl) (by show 0 ≤ _; decide) ?_
  simp (decide := true) (maxSteps := 4000000) only [go_sem, Nat.reduceAdd, Nat.reduceSub, Nat.reduceMul, Nat.reduceDiv, Nat.reduceMod, Nat.reduceLT, Nat.reduceLeDiff, Nat.reduceEqDiff, Nat.reduceBEq, Nat.reduceBNe, Nat.reduceGT, Int.reduceAdd, Int.reduceSub, Int.reduceMul, Int.reduceNeg, Int.reduceLT, Int.reduceLE, Int.reduceEq, Int.reduceNe, Int.reduceBEq, Int.reduceBNe, Int.reduceToNat, Int.reduceGT, Int.reduceGE, ↓reduceIte, decide_true, decide_false, eq_self, Nat.mul_one, Nat.zero_mul, Nat.one_mul, Int.le_refl, Nat.le_refl, Int.cast_ofNat_Int, Try.f35, u1, u2, g1, s1, s2, exCut, exClicks, exRd, List.length_cons, List.length_nil, Span.t, Span.cs]
  done
noncomputable def txLimb : List TV → Option TV
  | [] => some (.bool true)
  | _ => none
theorem txLimb_ok : ∀ xs r, txLimb xs = some r → PCalls Try.prog 35 xs r := by
  intro xs r h
  unfold txLimb at h
  split at h
  · cases h; exact tLimb_c
  · cases h
attribute [go_sem] txLimb
noncomputable def spT2 : Pm.Spec := spT1.one 35 txLimb
@[go_sem] theorem spT2_p (f : FuncId) (xs : List TV) : spT2.p f xs = Pm.Spec.p (spT1.one 35 txLimb) f xs := rfl
@[go_sem] theorem spT2_h (f : FuncId) (ps : List PV) (hl : List PO) : spT2.h f ps hl = Pm.Spec.h (spT1.one 35 txLimb) f ps hl := rfl
@[go_sem] theorem spT2_y (Y : Pm.YS) (f : FuncId) (ps : List PV) (hl : List PO) : spT2.y Y f ps hl = Pm.Spec.y (spT1.one 35 txLimb) Y f ps hl := rfl
@[go_sem] theorem spT2_fz (f : FuncId) : spT2.fz f = Pm.Spec.fz (spT1.one 35 txLimb) f := rfl
@[go_sem] theorem spT2_fr (f : FuncId) : spT2.fr f = Pm.Spec.fr (spT1.one 35 txLimb) f := rfl
@[go_sem] theorem spT2_yf (f : FuncId) : spT2.yf f = Pm.Spec.yf (spT1.one 35 txLimb) f := rfl
@[go_sem] theorem spT2_mu (t : TypeId) : spT2.mu t = Pm.Spec.mu (spT1.one 35 txLimb) t := rfl
@[go_sem] theorem spT2_nf (t : TypeId) : spT2.nf t = Pm.Spec.nf (spT1.one 35 txLimb) t := rfl
theorem spT2_ok : SpecOk Try.prog spT2 := Spec.one_ok txLimb_ok spT1_ok
end Go.Proofs.Ytadkjjnnnkfalaa

/- Part TH. -/
namespace Go.Proofs.Ytadkjjnnnkfalaa
open Go.RowKit Go.Pm Go.Oc Go.Oc.Lv Go.Oh Go.Os
set_option maxRecDepth 100000
set_option linter.unusedVariables false
set_option maxHeartbeats 4000000

theorem read_ok {x : Sx} {a s : Int} {r : Span} (h : readP x a s = (r, 0)) : -10000000 ≤ r.lo ∧ r.lo ≤ r.hi ∧ r.hi ≤ 10000000 := by
  unfold readP at h
  cases hv : sxOk x with
  | false => rw [hv] at h; cases h
  | true =>
    cases hr : isRd x a s with
    | false => rw [hv, hr] at h; cases h
    | true =>
      rw [hv, hr, if_pos rfl, if_pos rfl] at h
      cases h
      have g := sxOk_iff.1 hv
      obtain ⟨⟨h0, h1⟩, _⟩ := isRd_iff.1 hr
      have hb := corr_b (rd_tab g h0 h1) g.tab
      have hs := shs_b g s.toNat
      have hi := g.idx
      have hl := last_b g
      unfold readS; simp only [addS]; omega
theorem tilt_bd {v : Vial} {l : List Rd} (h : (tiltR v l).e = 0) : -5000000 ≤ (tiltR v l).tilt.lo ∧ (tiltR v l).tilt.lo ≤ 5000000 ∧ -5000000 ≤ (tiltR v l).tilt.hi ∧ (tiltR v l).tilt.hi ≤ 5000000 := by
  unfold tiltR at h ⊢
  by_cases hk : asked v l = 0
  · rw [if_pos hk] at h ⊢
    obtain ⟨hv, hr⟩ := asked_zero hk
    cases hi : (tilts v (l.map mid)).is with
    | false => rw [hi] at h; simp at h
    | true => simp only [if_true]; exact tilts_bound hv (mksOk_mid hv hr)
  · rw [if_neg hk] at h; exact absurd h hk
theorem TopHorizon_c (v : Vial) {l : List Rd} {s : TV} (hs : IsRow Rd.cs s l) (hl : l.length ≤ 5864062014806) (tv tz tt wo bo : Int) (x : Sx) {sT sS : TV} (hT : IsRow Span.cs sT x.tab) (hS : IsRow Span.cs sS x.shade) (lT : x.tab.length ≤ 9000000000000) (lS : x.shade.length ≤ 9000000000000)
    (a1 s1 b1 s2 r0 r1 r2 r3 r4 r5 n : Int) :
    PCalls Try.prog 5 [.agg (v.cs ++ [s, .int .i64 tv, .int .i64 tz, .int .i64 tt, .int .i64 wo, .int .i64 bo]), .agg (x.cs sT sS ++ [.int .i64 a1, .int .i64 s1, .int .i64 b1, .int .i64 s2, .int .i64 r0, .int .i64 r1, .int .i64 r2, .int .i64 r3, .int .i64 r4, .int .i64 r5]), .int .i64 n] (.bool true) := by
  have key := Lv.can_tilt v l tv tz tt
  obtain ⟨⟨cb, ce⟩, hc⟩ : ∃ c, Lv.canP v l tv tz tt = c := ⟨_, rfl⟩
  obtain ⟨⟨⟨t0, t1⟩, ⟨z0, z1⟩, te⟩, ht⟩ : ∃ t, tiltR v l = t := ⟨_, rfl⟩
  rw [hc, ht] at key
  have rR : rowL Go.Oc.Lv.unRds s = some l := by
    rcases hs with ⟨rfl, rfl⟩ | ⟨full, rfl⟩
    · rfl
    · simp only [rowL, Go.Oc.Lv.unRds_eq, if_true]
  have rT := rowS_is hT
  have rS := rowS_is hS
  unfold rowL at rT rS rR
  simp only [unS_nil] at rT rS
  have e0 : Sx.mk x.step x.tab ⟨x.idx.lo, x.idx.hi⟩ x.wrong x.shade = x := rfl
  have ev : Vial.mk v.marks v.l0 v.l1 v.v0 v.v1 v.z0 v.z1 v.wr = v := rfl
  obtain ⟨⟨⟨q0, q1⟩, re⟩, hr⟩ : ∃ r, readP x a1 s1 = r := ⟨_, rfl⟩
  refine pcalls_by Try.mixes spT2_ok (fn := Try.f5) Try.func5 rfl (by kernel_rfl) (by show 3 ≤ _; decide) ?_
  simp (decide := true) (maxSteps := 4000000) only [go_sem, Nat.reduceAdd, Nat.reduceSub, Nat.reduceMul, Nat.reduceDiv, Nat.reduceMod, Nat.reduceLT, Nat.reduceLeDiff, Nat.reduceEqDiff, Nat.reduceBEq, Nat.reduceBNe, Nat.reduceGT, Int.reduceAdd, Int.reduceSub, Int.reduceMul, Int.reduceNeg, Int.reduceLT, Int.reduceLE, Int.reduceEq, Int.reduceNe, Int.reduceBEq, Int.reduceBNe, Int.reduceToNat, Int.reduceGT, Int.reduceGE, ↓reduceIte, decide_true, decide_false, eq_self, Nat.mul_one, Nat.zero_mul, Nat.one_mul, Int.le_refl, Nat.le_refl, Int.cast_ofNat_Int, Try.f5, Sx.cs, Vial.cs, rR, rT, rS, hl, lT, lS, ev, e0, hc, ht, hr, TE.t, Span.t, Span.cs]
  by_cases c1 : ce = 0
  case neg =>
    have b1 : (ce != 0) = true := by simpa using c1
    simp (decide := true) (maxSteps := 4000000) only [go_sem, Nat.reduceAdd, Nat.reduceSub, Nat.reduceMul, Nat.reduceDiv, Nat.reduceMod, Nat.reduceLT, Nat.reduceLeDiff, Nat.reduceEqDiff, Nat.reduceBEq, Nat.reduceBNe, Nat.reduceGT, Int.reduceAdd, Int.reduceSub, Int.reduceMul, Int.reduceNeg, Int.reduceLT, Int.reduceLE, Int.reduceEq, Int.reduceNe, Int.reduceBEq, Int.reduceBNe, Int.reduceToNat, Int.reduceGT, Int.reduceGE, ↓reduceIte, decide_true, decide_false, eq_self, Nat.mul_one, Nat.zero_mul, Nat.one_mul, Int.le_refl, Nat.le_refl, Int.cast_ofNat_Int, b1, Bool.true_or]
  subst c1
  have b1 : ((0 : Int) != 0) = false := rfl
  cases cb with
  | false => simp (decide := true) (maxSteps := 4000000) only [go_sem, Nat.reduceAdd, Nat.reduceSub, Nat.reduceMul, Nat.reduceDiv, Nat.reduceMod, Nat.reduceLT, Nat.reduceLeDiff, Nat.reduceEqDiff, Nat.reduceBEq, Nat.reduceBNe, Nat.reduceGT, Int.reduceAdd, Int.reduceSub, Int.reduceMul, Int.reduceNeg, Int.reduceLT, Int.reduceLE, Int.reduceEq, Int.reduceNe, Int.reduceBEq, Int.reduceBNe, Int.reduceToNat, Int.reduceGT, Int.reduceGE, ↓reduceIte, decide_true, decide_false, eq_self, Nat.mul_one, Nat.zero_mul, Nat.one_mul, Int.le_refl, Nat.le_refl, Int.cast_ofNat_Int, b1, Bool.false_or, Bool.not_false, Bool.true_and, Bool.true_or]
  | true =>
    by_cases c2 : re = 0
    case neg =>
      have b2 : (re != 0) = true := by simpa using c2
      simp (decide := true) (maxSteps := 4000000) only [go_sem, Nat.reduceAdd, Nat.reduceSub, Nat.reduceMul, Nat.reduceDiv, Nat.reduceMod, Nat.reduceLT, Nat.reduceLeDiff, Nat.reduceEqDiff, Nat.reduceBEq, Nat.reduceBNe, Nat.reduceGT, Int.reduceAdd, Int.reduceSub, Int.reduceMul, Int.reduceNeg, Int.reduceLT, Int.reduceLE, Int.reduceEq, Int.reduceNe, Int.reduceBEq, Int.reduceBNe, Int.reduceToNat, Int.reduceGT, Int.reduceGE, ↓reduceIte, decide_true, decide_false, eq_self, Nat.mul_one, Nat.zero_mul, Nat.one_mul, Int.le_refl, Nat.le_refl, Int.cast_ofNat_Int, b1, b2, Bool.false_or, Bool.not_false, Bool.not_true, Bool.true_and, Bool.and_self, Bool.and_false]
    subst c2
    rcases key with ⟨h1, _⟩ | ⟨_, _, h1, _⟩ | ⟨_, hte, hin⟩
    · exact absurd rfl h1
    · cases h1
    · have hte : te = 0 := hte
      subst hte
      obtain ⟨⟨g0, g1⟩, _⟩ := hin rfl
      have g0 : t0 ≤ tt := g0
      have g1 : tt ≤ t1 := g1
      have tb := tilt_bd (v := v) (l := l) (by rw [ht])
      rw [ht] at tb
      have tb : -5000000 ≤ t0 ∧ t0 ≤ 5000000 ∧ -5000000 ≤ t1 ∧ t1 ≤ 5000000 := tb
      have rb := read_ok hr
      have rb : -10000000 ≤ q0 ∧ q0 ≤ q1 ∧ q1 ≤ 10000000 := rb
      have hin1 : inB tt t0 t1 = true := inB_iff.2 ⟨g0, g1⟩
      have i1 : -9223372036854775808 ≤ q0 ∧ q0 ≤ 9223372036854775807 := by omega
      have i2 : -9223372036854775808 ≤ q1 ∧ q1 ≤ 9223372036854775807 := by omega
      have hch := chosen_mem n rb.2.1
      obtain ⟨CH, hCH⟩ : ∃ c, chosen q0 q1 n = c := ⟨_, rfl⟩
      rw [hCH] at hch
      have w1 : IntKind.i64.wrap (100 * CH) = 100 * CH := wrap_in (by omega) (by omega)
      have w2 : IntKind.i64.wrap (100 * q0) = 100 * q0 := wrap_in (by omega) (by omega)
      have w3 : IntKind.i64.wrap (100 * q1) = 100 * q1 := wrap_in (by omega) (by omega)
      have w4 : IntKind.i64.wrap (2 * t1) = 2 * t1 := wrap_in (by omega) (by omega)
      have w5 : IntKind.i64.wrap (2 * t0) = 2 * t0 := wrap_in (by omega) (by omega)
      have w6 : IntKind.i64.wrap (100 * q0 - 2 * t1) = 100 * q0 - 2 * t1 := wrap_in (by omega) (by omega)
      have w7 : IntKind.i64.wrap (100 * q1 - 2 * t0) = 100 * q1 - 2 * t0 := wrap_in (by omega) (by omega)
      have w8 : IntKind.i64.wrap (2 * tt) = 2 * tt := wrap_in (by omega) (by omega)
      have w9 : IntKind.i64.wrap (100 * CH - 2 * tt) = 100 * CH - 2 * tt := wrap_in (by omega) (by omega)
      have hin2 : inB (100 * CH - 2 * tt) (100 * q0 - 2 * t1) (100 * q1 - 2 * t0) = true := inB_iff.2 (by omega)
      have m1 := Int.emod_nonneg wo (show (100 : Int) ≠ 0 by decide)
      have m2 := Int.emod_lt_of_pos wo (show (0 : Int) < 100 by decide)
      have m3 := Int.emod_nonneg bo (show (100000 : Int) ≠ 0 by decide)
      have m4 := Int.emod_lt_of_pos bo (show (0 : Int) < 100000 by decide)
      have d1 : (0 : Int) < 100 ∧ (100 : Int) ≤ 9223372036854775807 := by decide
      have d2 : (0 : Int) < 100000 ∧ (100000 : Int) ≤ 9223372036854775807 := by decide
      have w10 : IntKind.i64.wrap (1 + wo % 100) = 1 + wo % 100 := wrap_in (by omega) (by omega)
      obtain ⟨W, hW⟩ : ∃ W, 1 + wo % 100 = W := ⟨_, rfl⟩
      obtain ⟨B, hB⟩ : ∃ B, bo % 100000 = B := ⟨_, rfl⟩
      rw [hW] at w10
      rw [hB] at m3 m4
      have law := clicks_law ⟨t0, t1⟩ W B
      obtain ⟨⟨c, e⟩, hcl⟩ : ∃ r, Lv.clicksP ⟨t0, t1⟩ W B = r := ⟨_, rfl⟩
      rw [hcl] at law
      simp (decide := true) (maxSteps := 4000000) only [go_sem, Nat.reduceAdd, Nat.reduceSub, Nat.reduceMul, Nat.reduceDiv, Nat.reduceMod, Nat.reduceLT, Nat.reduceLeDiff, Nat.reduceEqDiff, Nat.reduceBEq, Nat.reduceBNe, Nat.reduceGT, Int.reduceAdd, Int.reduceSub, Int.reduceMul, Int.reduceNeg, Int.reduceLT, Int.reduceLE, Int.reduceEq, Int.reduceNe, Int.reduceBEq, Int.reduceBNe, Int.reduceToNat, Int.reduceGT, Int.reduceGE, ↓reduceIte, decide_true, decide_false, eq_self, Nat.mul_one, Nat.zero_mul, Nat.one_mul, Int.le_refl, Nat.le_refl, Int.cast_ofNat_Int, b1, hin1, i1, i2, hCH, w1, w2, w3, w4, w5, w6, w7, w8, w9, hin2, d1, d2, hW, w10, hB, hcl, Bool.false_or, Bool.not_false, Bool.not_true, Bool.true_and, Bool.and_self, Bool.and_false]
      rcases law with h7 | ⟨_, _, _, ⟨h4, _⟩ | ⟨he, hbd, _⟩⟩
      · cases h7
        simp (decide := true) (maxSteps := 4000000) only [go_sem, Nat.reduceAdd, Nat.reduceSub, Nat.reduceMul, Nat.reduceDiv, Nat.reduceMod, Nat.reduceLT, Nat.reduceLeDiff, Nat.reduceEqDiff, Nat.reduceBEq, Nat.reduceBNe, Nat.reduceGT, Int.reduceAdd, Int.reduceSub, Int.reduceMul, Int.reduceNeg, Int.reduceLT, Int.reduceLE, Int.reduceEq, Int.reduceNe, Int.reduceBEq, Int.reduceBNe, Int.reduceToNat, Int.reduceGT, Int.reduceGE, ↓reduceIte, decide_true, decide_false, eq_self, Nat.mul_one, Nat.zero_mul, Nat.one_mul, Int.le_refl, Nat.le_refl, Int.cast_ofNat_Int]
      · cases h4
        simp (decide := true) (maxSteps := 4000000) only [go_sem, Nat.reduceAdd, Nat.reduceSub, Nat.reduceMul, Nat.reduceDiv, Nat.reduceMod, Nat.reduceLT, Nat.reduceLeDiff, Nat.reduceEqDiff, Nat.reduceBEq, Nat.reduceBNe, Nat.reduceGT, Int.reduceAdd, Int.reduceSub, Int.reduceMul, Int.reduceNeg, Int.reduceLT, Int.reduceLE, Int.reduceEq, Int.reduceNe, Int.reduceBEq, Int.reduceBNe, Int.reduceToNat, Int.reduceGT, Int.reduceGE, ↓reduceIte, decide_true, decide_false, eq_self, Nat.mul_one, Nat.zero_mul, Nat.one_mul, Int.le_refl, Nat.le_refl, Int.cast_ofNat_Int]
      · have he : e = 0 := he
        subst he
        have hbd : -B ≤ t0 + c * W ∧ t1 + c * W ≤ B := hbd
        obtain ⟨P, hP⟩ : ∃ P, c * W = P := ⟨_, rfl⟩
        rw [hP] at hbd
        have x1 : IntKind.i64.wrap (2 * B) = 2 * B := wrap_in (by omega) (by omega)
        have x2 : IntKind.i64.wrap (100 * q0 - 2 * B) = 100 * q0 - 2 * B := wrap_in (by omega) (by omega)
        have x3 : IntKind.i64.wrap (100 * q1 + 2 * B) = 100 * q1 + 2 * B := wrap_in (by omega) (by omega)
        have x4 : IntKind.i64.wrap P = P := wrap_in (by omega) (by omega)
        have x5 : IntKind.i64.wrap (tt + P) = tt + P := wrap_in (by omega) (by omega)
        have x6 : IntKind.i64.wrap (2 * (tt + P)) = 2 * (tt + P) := wrap_in (by omega) (by omega)
        have x7 : IntKind.i64.wrap (100 * CH - 2 * (tt + P)) = 100 * CH - 2 * (tt + P) := wrap_in (by omega) (by omega)
        have hin3 : inB (100 * CH - 2 * (tt + P)) (100 * q0 - 2 * B) (100 * q1 + 2 * B) = true := inB_iff.2 (by omega)
        simp (decide := true) (maxSteps := 4000000) only [go_sem, Nat.reduceAdd, Nat.reduceSub, Nat.reduceMul, Nat.reduceDiv, Nat.reduceMod, Nat.reduceLT, Nat.reduceLeDiff, Nat.reduceEqDiff, Nat.reduceBEq, Nat.reduceBNe, Nat.reduceGT, Int.reduceAdd, Int.reduceSub, Int.reduceMul, Int.reduceNeg, Int.reduceLT, Int.reduceLE, Int.reduceEq, Int.reduceNe, Int.reduceBEq, Int.reduceBNe, Int.reduceToNat, Int.reduceGT, Int.reduceGE, ↓reduceIte, decide_true, decide_false, eq_self, Nat.mul_one, Nat.zero_mul, Nat.one_mul, Int.le_refl, Nat.le_refl, Int.cast_ofNat_Int, b1, w2, w3, x1, x2, x3, hP, x4, x5, x6, x7, hin3]
        done
end Go.Proofs.Ytadkjjnnnkfalaa

/- Part Tx. -/
namespace Go.Proofs.Ytadkjjnnnkfalaa
open Go.RowKit Go.Pm Go.Oc Go.Oh Go.Os
set_option maxRecDepth 100000
set_option linter.unusedVariables false

theorem cSlice {k : Nat} {t e : TypeId} {cs : List TV} (hu : Program.underlying Try.prog t = some (.slice e)) (h : cellsOk Try.prog (k + 1) t cs) : ∃ x, cs = [x] ∧ cellsOk Try.prog (k + 1) t [x] := by
  have h' := h
  unfold cellsOk at h'
  rw [hu] at h'
  rcases h' with h' | ⟨rows, full, h', _⟩
  · exact ⟨_, h', by rw [← h']; exact h⟩
  · exact ⟨_, h', by rw [← h']; exact h⟩
theorem cInt {k : Nat} {cs : List TV} (h : cellsOk Try.prog (k + 1) 3 cs) : ∃ n, cs = [.int .i64 n] ∧ -9223372036854775808 ≤ n ∧ n ≤ 9223372036854775807 := cellsOk_i64 (by kernel_rfl) h
theorem cBool {k : Nat} {cs : List TV} (h : cellsOk Try.prog (k + 1) 4 cs) : ∃ b, cs = [.bool b] := cellsOk_boolT (by kernel_rfl) h
theorem cSpan {k : Nat} {cs : List TV} (h : cellsOk Try.prog (k + 2) 29 cs) : ∃ s : Span, cs = s.cs ∧ (-9223372036854775808 ≤ s.lo ∧ s.lo ≤ 9223372036854775807) ∧ -9223372036854775808 ≤ s.hi ∧ s.hi ≤ 9223372036854775807 := by
  have h := cellsOk_tys (ts := [3, 3]) (by kernel_rfl) h
  obtain ⟨_, r, rfl, h1, h⟩ := seqOk_cons h
  obtain ⟨_, r, rfl, h2, h⟩ := seqOk_cons h
  cases seqOk_nil h
  obtain ⟨a, rfl, ha⟩ := cInt h1
  obtain ⟨b, rfl, hb⟩ := cInt h2
  exact ⟨⟨a, b⟩, rfl, ha, hb⟩
theorem cInts {x : TV} {k : Nat} (h : cellsOk Try.prog (k + 2) 39 [x]) : ∃ l : List Int, IsRow ic x l ∧ l.length ≤ 17592186044415 ∧ ∀ n ∈ l, -9223372036854775808 ≤ n ∧ n ≤ 9223372036854775807 := by
  obtain ⟨l, h1, h2, h3, _⟩ := cellsOk_row (e := 3) (c := ic) (p := fun n => -9223372036854775808 ≤ n ∧ n ≤ 9223372036854775807) (by kernel_rfl) (fun cs hc => cInt hc) h
  rw [show Program.bytesOf Try.prog 3 = 8 by kernel_rfl] at h3
  unfold reachBytes at h3
  exact ⟨l, h1, by omega, h2⟩
theorem cSpans {x : TV} {k : Nat} (h : cellsOk Try.prog (k + 3) 23 [x]) : ∃ l : List Span, IsRow Span.cs x l ∧ l.length ≤ 9000000000000 ∧ ∀ s ∈ l, (-9223372036854775808 ≤ s.lo ∧ s.lo ≤ 9223372036854775807) ∧ -9223372036854775808 ≤ s.hi ∧ s.hi ≤ 9223372036854775807 := by
  obtain ⟨l, h1, h2, h3, _⟩ := cellsOk_row (e := 29) (c := Span.cs) (p := fun s : Span => (-9223372036854775808 ≤ s.lo ∧ s.lo ≤ 9223372036854775807) ∧ -9223372036854775808 ≤ s.hi ∧ s.hi ≤ 9223372036854775807) (by kernel_rfl) (fun cs hc => cSpan hc) h
  rw [show Program.bytesOf Try.prog 29 = 16 by kernel_rfl] at h3
  unfold reachBytes at h3
  exact ⟨l, h1, by omega, h2⟩
theorem cPair {k : Nat} {t : TypeId} (ht : tysOf Try.prog t = some [3, 3]) {cs : List TV} (h : cellsOk Try.prog (k + 2) t cs) : ∃ a b : Int, cs = [.int .i64 a, .int .i64 b] ∧ (-9223372036854775808 ≤ a ∧ a ≤ 9223372036854775807) ∧ -9223372036854775808 ≤ b ∧ b ≤ 9223372036854775807 := by
  have h := cellsOk_tys ht h
  obtain ⟨_, r, rfl, h1, h⟩ := seqOk_cons h
  obtain ⟨_, r, rfl, h2, h⟩ := seqOk_cons h
  cases seqOk_nil h
  obtain ⟨a, rfl, ha⟩ := cInt h1
  obtain ⟨b, rfl, hb⟩ := cInt h2
  exact ⟨a, b, rfl, ha, hb⟩
theorem cTriple {k : Nat} {t : TypeId} (ht : tysOf Try.prog t = some [3, 3, 3]) {cs : List TV} (h : cellsOk Try.prog (k + 2) t cs) : ∃ a b c : Int, cs = [.int .i64 a, .int .i64 b, .int .i64 c] := by
  have h := cellsOk_tys ht h
  obtain ⟨_, r, rfl, h1, h⟩ := seqOk_cons h
  obtain ⟨_, r, rfl, h2, h⟩ := seqOk_cons h
  obtain ⟨_, r, rfl, h3, h⟩ := seqOk_cons h
  cases seqOk_nil h
  obtain ⟨a, rfl, _⟩ := cInt h1
  obtain ⟨b, rfl, _⟩ := cInt h2
  obtain ⟨c, rfl, _⟩ := cInt h3
  exact ⟨a, b, c, rfl⟩
theorem xInt {x : TV} (h : argOk Try.prog 3 x) : ∃ n, x = .int .i64 n ∧ -9223372036854775808 ≤ n ∧ n ≤ 9223372036854775807 := argOk_i64 (by kernel_rfl) h
theorem xInts {x : TV} (h : argOk Try.prog 39 x) : ∃ l : List Int, IsRow ic x l ∧ l.length ≤ 17592186044415 ∧ ∀ n ∈ l, -9223372036854775808 ≤ n ∧ n ≤ 9223372036854775807 := cInts (argOk_sl (e := 3) (by kernel_rfl) h)
theorem xSpans {x : TV} (h : argOk Try.prog 23 x) : ∃ l : List Span, IsRow Span.cs x l ∧ l.length ≤ 9000000000000 ∧ ∀ s ∈ l, (-9223372036854775808 ≤ s.lo ∧ s.lo ≤ 9223372036854775807) ∧ -9223372036854775808 ≤ s.hi ∧ s.hi ≤ 9223372036854775807 := cSpans (argOk_sl (e := 29) (by kernel_rfl) h)
end Go.Proofs.Ytadkjjnnnkfalaa

/- Part THx. -/
namespace Go.Proofs.Ytadkjjnnnkfalaa
open Go.RowKit Go.Pm Go.Oc Go.Oc.Lv Go.Oh Go.Os
set_option maxRecDepth 100000
set_option linter.unusedVariables false

theorem cVial {k : Nat} {cs : List TV} (h : cellsOk Try.prog (k + 3) 84 cs) : ∃ v : Vial, cs = v.cs := by
  have h := cellsOk_tys (ts := [3, 29, 29, 29, 3]) (by kernel_rfl) h
  obtain ⟨_, r, rfl, h1, h⟩ := seqOk_cons h
  obtain ⟨_, r, rfl, h2, h⟩ := seqOk_cons h
  obtain ⟨_, r, rfl, h3, h⟩ := seqOk_cons h
  obtain ⟨_, r, rfl, h4, h⟩ := seqOk_cons h
  obtain ⟨_, r, rfl, h5, h⟩ := seqOk_cons h
  cases seqOk_nil h
  obtain ⟨m, rfl, _⟩ := cInt h1
  obtain ⟨a, rfl, _⟩ := cSpan h2
  obtain ⟨b, rfl, _⟩ := cSpan h3
  obtain ⟨c, rfl, _⟩ := cSpan h4
  obtain ⟨g, rfl, _⟩ := cInt h5
  exact ⟨⟨m, a.lo, a.hi, b.lo, b.hi, c.lo, c.hi, g⟩, rfl⟩
theorem cRd {k : Nat} {cs : List TV} (h : cellsOk Try.prog (k + 2) 218 cs) : ∃ r : Rd, cs = r.cs ∧ True := by
  have h := cellsOk_tys (ts := [3, 3, 4]) (by kernel_rfl) h
  obtain ⟨_, r, rfl, h1, h⟩ := seqOk_cons h
  obtain ⟨_, r, rfl, h2, h⟩ := seqOk_cons h
  obtain ⟨_, r, rfl, h3, h⟩ := seqOk_cons h
  cases seqOk_nil h
  obtain ⟨a, rfl, _⟩ := cInt h1
  obtain ⟨b, rfl, _⟩ := cInt h2
  obtain ⟨c, rfl⟩ := cBool h3
  exact ⟨⟨a, b, c⟩, rfl, trivial⟩
theorem cRds {x : TV} {k : Nat} (h : cellsOk Try.prog (k + 3) 85 [x]) : ∃ l : List Rd, IsRow Rd.cs x l ∧ l.length ≤ 5864062014806 := by
  obtain ⟨l, h1, _, h3, _⟩ := cellsOk_row (e := 218) (c := Rd.cs) (p := fun _ => True) (by kernel_rfl) (fun cs hc => cRd hc) h
  rw [show Program.bytesOf Try.prog 218 = 24 by kernel_rfl] at h3
  unfold reachBytes at h3
  exact ⟨l, h1, by omega⟩
theorem cSx {k : Nat} {cs : List TV} (h : cellsOk Try.prog (k + 5) 91 cs) : ∃ (s : Sx) (sT sS : TV), cs = s.cs sT sS ∧ IsRow Span.cs sT s.tab ∧ IsRow Span.cs sS s.shade ∧ s.tab.length ≤ 9000000000000 ∧ s.shade.length ≤ 9000000000000 := by
  have h := cellsOk_tys (ts := [3, 23, 29, 3, 23]) (by kernel_rfl) h
  obtain ⟨_, r, rfl, h1, h⟩ := seqOk_cons h
  obtain ⟨_, r, rfl, h2, h⟩ := seqOk_cons h
  obtain ⟨_, r, rfl, h3, h⟩ := seqOk_cons h
  obtain ⟨_, r, rfl, h4, h⟩ := seqOk_cons h
  obtain ⟨_, r, rfl, h5, h⟩ := seqOk_cons h
  cases seqOk_nil h
  obtain ⟨a, rfl, _⟩ := cInt h1
  obtain ⟨b, rfl, h2⟩ := cSlice (e := 29) (by kernel_rfl) h2
  obtain ⟨c, rfl, _⟩ := cSpan h3
  obtain ⟨d, rfl, _⟩ := cInt h4
  obtain ⟨e, rfl, h5⟩ := cSlice (e := 29) (by kernel_rfl) h5
  obtain ⟨T, hT, lT, _⟩ := cSpans h2
  obtain ⟨S, hS, lS, _⟩ := cSpans h5
  exact ⟨⟨a, T, c, d, S⟩, b, e, rfl, hT, hS, lT, lS⟩
theorem xFooted {x : TV} (h : argOk Try.prog 89 x) : ∃ (v : Vial) (l : List Rd) (s : TV) (tv tz tt wo bo : Int), x = .agg (v.cs ++ [s, .int .i64 tv, .int .i64 tz, .int .i64 tt, .int .i64 wo, .int .i64 bo]) ∧ IsRow Rd.cs s l ∧ l.length ≤ 5864062014806 := by
  obtain ⟨cs, rfl, h'⟩ := argOk_agg (ts := [84, 85, 87, 3, 3]) (by kernel_rfl) h
  have h := cellsOk_tys (ts := [84, 85, 87, 3, 3]) (by kernel_rfl) h'
  obtain ⟨_, r, rfl, h1, h⟩ := seqOk_cons h
  obtain ⟨_, r, rfl, h2, h⟩ := seqOk_cons h
  obtain ⟨_, r, rfl, h3, h⟩ := seqOk_cons h
  obtain ⟨_, r, rfl, h4, h⟩ := seqOk_cons h
  obtain ⟨_, r, rfl, h5, h⟩ := seqOk_cons h
  cases seqOk_nil h
  obtain ⟨v, rfl⟩ := cVial h1
  obtain ⟨s, rfl, h2⟩ := cSlice (e := 218) (by kernel_rfl) h2
  obtain ⟨l, hl, ll⟩ := cRds h2
  obtain ⟨a, b, c, rfl⟩ := cTriple (by kernel_rfl) h3
  obtain ⟨d, rfl, _⟩ := cInt h4
  obtain ⟨e, rfl, _⟩ := cInt h5
  exact ⟨v, l, s, a, b, c, d, e, rfl, hl, ll⟩
theorem xSighted {x : TV} (h : argOk Try.prog 97 x) : ∃ (s : Sx) (sT sS : TV) (a1 s1 b1 s2 r0 r1 r2 r3 r4 r5 : Int), x = .agg (s.cs sT sS ++ [.int .i64 a1, .int .i64 s1, .int .i64 b1, .int .i64 s2, .int .i64 r0, .int .i64 r1, .int .i64 r2, .int .i64 r3, .int .i64 r4, .int .i64 r5]) ∧ IsRow Span.cs sT s.tab ∧ IsRow Span.cs sS s.shade ∧ s.tab.length ≤ 9000000000000 ∧ s.shade.length ≤ 9000000000000 := by
  obtain ⟨cs, rfl, h'⟩ := argOk_agg (ts := [91, 93, 93, 95]) (by kernel_rfl) h
  have h := cellsOk_tys (ts := [91, 93, 93, 95]) (by kernel_rfl) h'
  obtain ⟨_, r, rfl, h1, h⟩ := seqOk_cons h
  obtain ⟨_, r, rfl, h2, h⟩ := seqOk_cons h
  obtain ⟨_, r, rfl, h3, h⟩ := seqOk_cons h
  obtain ⟨_, r, rfl, h4, h⟩ := seqOk_cons h
  cases seqOk_nil h
  obtain ⟨s, sT, sS, rfl, hT, hS, lT, lS⟩ := cSx h1
  obtain ⟨a, b, rfl, _⟩ := cPair (by kernel_rfl) h2
  obtain ⟨c, d, rfl, _⟩ := cPair (by kernel_rfl) h3
  have h := cellsOk_tys (ts := [3, 3, 3, 29, 3]) (by kernel_rfl) h4
  obtain ⟨_, r, rfl, g1, h⟩ := seqOk_cons h
  obtain ⟨_, r, rfl, g2, h⟩ := seqOk_cons h
  obtain ⟨_, r, rfl, g3, h⟩ := seqOk_cons h
  obtain ⟨_, r, rfl, g4, h⟩ := seqOk_cons h
  obtain ⟨_, r, rfl, g5, h⟩ := seqOk_cons h
  cases seqOk_nil h
  obtain ⟨r0, rfl, _⟩ := cInt g1
  obtain ⟨r1, rfl, _⟩ := cInt g2
  obtain ⟨r2, rfl, _⟩ := cInt g3
  obtain ⟨r3, rfl, _⟩ := cSpan g4
  obtain ⟨r4, rfl, _⟩ := cInt g5
  exact ⟨s, sT, sS, a, b, c, d, r0, r1, r2, r3.lo, r3.hi, r4, rfl, hT, hS, lT, lS⟩
end Go.Proofs.Ytadkjjnnnkfalaa
