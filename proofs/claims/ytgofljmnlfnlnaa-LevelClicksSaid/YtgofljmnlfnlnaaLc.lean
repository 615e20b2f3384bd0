/- Level: the walks of the program, 6: clicks. -/
import Derived.Test.YtgofljmnlfnlnaaLu
namespace Go.Proofs.Ytgofljmnlfnlnaa
open Go.RowKit Go.Pm Go.Oc
set_option maxRecDepth 100000
set_option linter.unusedVariables false
set_option maxHeartbeats 1000000

theorem ediv_tdiv {a b : Int} (h : 0 < b) : (if a.tmod b < 0 then a.tdiv b - 1 else a.tdiv b) = a / b := by
  have h1 := Int.mul_tdiv_add_tmod a b
  have h2 := Int.mul_ediv_add_emod a b
  have h3 := Int.emod_nonneg a (show b ≠ 0 by omega)
  have h4 := Int.emod_lt_of_pos a h
  have h5 : -b < a.tmod b ∧ a.tmod b < b := by
    have := Int.tmod_lt_of_pos a h
    have h6 := Int.tmod_lt_of_pos (-a) h
    rw [Int.neg_tmod] at h6
    omega
  by_cases hn : a.tmod b < 0
  · rw [if_pos hn]
    have e : b * (a.tdiv b - 1) + (a.tmod b + b) = a := by rw [Int.mul_sub]; omega
    have := (Int.ediv_emod_unique h (a := a) (r := a.tmod b + b) (q := a.tdiv b - 1)).2 ⟨by omega, by omega, by omega⟩
    exact this.1.symm
  · rw [if_neg hn]
    have := (Int.ediv_emod_unique h (a := a) (r := a.tmod b) (q := a.tdiv b)).2 ⟨by omega, by omega, by omega⟩
    exact this.1.symm
theorem divB {a b : Int} (hb : 0 < b) (ha : -4000000000000000000 ≤ a ∧ a ≤ 4000000000000000000) : -4000000000000000000 ≤ a / b ∧ a / b ≤ 4000000000000000000 := by
  have h1 := Int.ediv_le_self (a := 4000000000000000000) b (by omega)
  have h2 := Int.ediv_le_ediv hb (show a ≤ 4000000000000000000 by omega)
  have h3 := Int.ediv_le_ediv hb (show -4000000000000000000 ≤ a by omega)
  have h4 : -4000000000000000000 ≤ (-4000000000000000000) / b := by
    rw [Int.le_ediv_iff_mul_le hb]
    omega
  omega
theorem lDown_c (a b : Int) (hb : 0 < b) (ha : -4000000000000000000 ≤ a ∧ a ≤ 4000000000000000000) : PCalls Try.prog 62 [.int .i64 a, .int .i64 b] (.int .i64 (a / b)) := by
  refine pcalls_by Try.mixes noSpec_ok (fn := Try.f62) Try.func62 rfl (by kernel_rfl) (by show 2 ≤ _; decide) ?_
  have hne : ¬ b = 0 := by omega
  have hq := ediv_tdiv (a := a) hb
  have hd := divB hb ha
  by_cases hn : a.tmod b < 0
  · rw [if_pos hn] at hq
    have w1 : IntKind.i64.wrap (a.tdiv b) = a.tdiv b := wrap_in (by omega) (by omega)
    have w2 : IntKind.i64.wrap (a.tdiv b - 1) = a / b := by rw [wrap_in (by omega) (by omega)]; exact hq
    simp (decide := true) (maxSteps := 4000000) only [go_sem, Nat.reduceAdd, Nat.reduceSub, Nat.reduceMul, Nat.reduceDiv, Nat.reduceMod, Nat.reduceLT, Nat.reduceLeDiff, Nat.reduceEqDiff, Nat.reduceBEq, Nat.reduceBNe, Nat.reduceGT, Int.reduceAdd, Int.reduceSub, Int.reduceMul, Int.reduceNeg, Int.reduceLT, Int.reduceLE, Int.reduceEq, Int.reduceNe, Int.reduceBEq, Int.reduceBNe, Int.reduceToNat, Int.reduceGT, Int.reduceGE, ↓reduceIte, decide_true, decide_false, Try.f62, hne, hn, w1, w2]
  · rw [if_neg hn] at hq
    have w1 : IntKind.i64.wrap (a.tdiv b) = a / b := by rw [wrap_in (by omega) (by omega)]; exact hq
    simp (decide := true) (maxSteps := 4000000) only [go_sem, Nat.reduceAdd, Nat.reduceSub, Nat.reduceMul, Nat.reduceDiv, Nat.reduceMod, Nat.reduceLT, Nat.reduceLeDiff, Nat.reduceEqDiff, Nat.reduceBEq, Nat.reduceBNe, Nat.reduceGT, Int.reduceAdd, Int.reduceSub, Int.reduceMul, Int.reduceNeg, Int.reduceLT, Int.reduceLE, Int.reduceEq, Int.reduceNe, Int.reduceBEq, Int.reduceBNe, Int.reduceToNat, Int.reduceGT, Int.reduceGE, ↓reduceIte, decide_true, decide_false, Try.f62, hne, hn, w1]
noncomputable def glDown : List TV → Option TV
  | [.int .i64 a, .int .i64 b] => if 0 < b ∧ -4000000000000000000 ≤ a ∧ a ≤ 4000000000000000000 then some (.int .i64 (a / b)) else none
  | _ => none
theorem glDown_ok : ∀ xs r, glDown xs = some r → PCalls Try.prog 62 xs r := by
  intro xs r h
  unfold glDown at h
  split at h
  · split at h
    · rename_i hc; cases h; exact lDown_c _ _ hc.1 hc.2
    · cases h
  · cases h
attribute [go_sem] glDown
noncomputable def spC1 : Pm.Spec := spL1.one 62 glDown
attribute [go_sem] spC1
theorem spC1_ok : SpecOk Try.prog spC1 := Spec.one_ok glDown_ok spL1_ok
theorem lUp_c (a b : Int) (hb : 0 < b) (ha : -4000000000000000000 ≤ a ∧ a ≤ 4000000000000000000) : PCalls Try.prog 61 [.int .i64 a, .int .i64 b] (.int .i64 (-((-a) / b))) := by
  refine pcalls_by Try.mixes spC1_ok (fn := Try.f61) Try.func61 rfl (by kernel_rfl) (by show 2 ≤ _; decide) ?_
  have w1 : IntKind.i64.wrap (0 - a) = -a := by rw [wrap_in (by omega) (by omega)]; omega
  have hc : 0 < b ∧ -4000000000000000000 ≤ -a ∧ -a ≤ 4000000000000000000 := by omega
  have hd := divB hb (a := -a) (by omega)
  have w2 : IntKind.i64.wrap (0 - (-a) / b) = -((-a) / b) := by rw [wrap_in (by omega) (by omega)]; omega
  simp (decide := true) (maxSteps := 4000000) only [go_sem, Nat.reduceAdd, Nat.reduceSub, Nat.reduceMul, Nat.reduceDiv, Nat.reduceMod, Nat.reduceLT, Nat.reduceLeDiff, Nat.reduceEqDiff, Nat.reduceBEq, Nat.reduceBNe, Nat.reduceGT, Int.reduceAdd, Int.reduceSub, Int.reduceMul, Int.reduceNeg, Int.reduceLT, Int.reduceLE, Int.reduceEq, Int.reduceNe, Int.reduceBEq, Int.reduceBNe, Int.reduceToNat, Int.reduceGT, Int.reduceGE, ↓reduceIte, decide_true, decide_false, Try.f61, w1, hc, w2]
noncomputable def glUp : List TV → Option TV
  | [.int .i64 a, .int .i64 b] => if 0 < b ∧ -4000000000000000000 ≤ a ∧ a ≤ 4000000000000000000 then some (.int .i64 (-((-a) / b))) else none
  | _ => none
theorem glUp_ok : ∀ xs r, glUp xs = some r → PCalls Try.prog 61 xs r := by
  intro xs r h
  unfold glUp at h
  split at h
  · split at h
    · rename_i hc; cases h; exact lUp_c _ _ hc.1 hc.2
    · cases h
  · cases h
attribute [go_sem] glUp
theorem lWidth_c (s : Span) : PCalls Try.prog 59 [s.t] (.int .i64 (IntKind.i64.wrap (s.hi - s.lo))) := by
  refine pcalls_by Try.mixes noSpec_ok (fn := Try.f59) Try.func59 rfl (by kernel_rfl) (by show 1 ≤ _; decide) ?_
  simp (decide := true) (maxSteps := 4000000) only [go_sem, Nat.reduceAdd, Nat.reduceSub, Nat.reduceMul, Nat.reduceDiv, Nat.reduceMod, Nat.reduceLT, Nat.reduceLeDiff, Nat.reduceEqDiff, Nat.reduceBEq, Nat.reduceBNe, Nat.reduceGT, Int.reduceAdd, Int.reduceSub, Int.reduceMul, Int.reduceNeg, Int.reduceLT, Int.reduceLE, Int.reduceEq, Int.reduceNe, Int.reduceBEq, Int.reduceBNe, Int.reduceToNat, Int.reduceGT, Int.reduceGE, ↓reduceIte, decide_true, decide_false, Try.f59, Span.t, Span.cs]
noncomputable def glWidth : List TV → Option TV
  | [.agg [.int .i64 x, .int .i64 y]] => some (.int .i64 (IntKind.i64.wrap (y - x)))
  | _ => none
theorem glWidth_ok : ∀ xs r, glWidth xs = some r → PCalls Try.prog 59 xs r := by
  intro xs r h
  unfold glWidth at h
  split at h
  · cases h; exact lWidth_c ⟨_, _⟩
  · cases h
attribute [go_sem] glWidth
noncomputable def spC2 : Pm.Spec := (spC1.one 61 glUp).one 59 glWidth
attribute [go_sem] spC2
theorem spC2_ok : SpecOk Try.prog spC2 := Spec.one_ok glWidth_ok (Spec.one_ok glUp_ok spC1_ok)
/-- The clicks, and the error. -/
def clicksP (t : Span) (worth bound : Int) : Int × Int :=
  if spannedB t (-1000000) 1000000 = true ∧ inB worth 1 100 = true ∧ inB bound 0 1000000 = true then
    (if -((-(-bound - t.lo)) / worth) > (bound - t.hi) / worth then (0, 4) else if -((-(-bound - t.lo)) / worth) > 0 then (-((-(-bound - t.lo)) / worth), 0) else if (bound - t.hi) / worth < 0 then ((bound - t.hi) / worth, 0) else (0, 0))
  else (0, 7)
theorem lClicks_c (t : Span) (worth bound : Int) : PCalls Try.prog 28 [t.t, .int .i64 worth, .int .i64 bound] (.tup [.int .i64 (clicksP t worth bound).1, .int .i64 (clicksP t worth bound).2]) := by
  refine pcalls_by Try.mixes spC2_ok (fn := Try.f28) Try.func28 rfl (by kernel_rfl) (by show 3 ≤ _; decide) ?_
  unfold clicksP
  cases h1 : spannedB t (-1000000) 1000000 with
  | false => simp (decide := true) (maxSteps := 4000000) only [go_sem, Nat.reduceAdd, Nat.reduceSub, Nat.reduceMul, Nat.reduceDiv, Nat.reduceMod, Nat.reduceLT, Nat.reduceLeDiff, Nat.reduceEqDiff, Nat.reduceBEq, Nat.reduceBNe, Nat.reduceGT, Int.reduceAdd, Int.reduceSub, Int.reduceMul, Int.reduceNeg, Int.reduceLT, Int.reduceLE, Int.reduceEq, Int.reduceNe, Int.reduceBEq, Int.reduceBNe, Int.reduceToNat, Int.reduceGT, Int.reduceGE, ↓reduceIte, decide_true, decide_false, Try.f28, Span.t, Span.cs, h1]
  | true =>
    cases h2 : inB worth 1 100 with
    | false => simp (decide := true) (maxSteps := 4000000) only [go_sem, Nat.reduceAdd, Nat.reduceSub, Nat.reduceMul, Nat.reduceDiv, Nat.reduceMod, Nat.reduceLT, Nat.reduceLeDiff, Nat.reduceEqDiff, Nat.reduceBEq, Nat.reduceBNe, Nat.reduceGT, Int.reduceAdd, Int.reduceSub, Int.reduceMul, Int.reduceNeg, Int.reduceLT, Int.reduceLE, Int.reduceEq, Int.reduceNe, Int.reduceBEq, Int.reduceBNe, Int.reduceToNat, Int.reduceGT, Int.reduceGE, ↓reduceIte, decide_true, decide_false, Try.f28, Span.t, Span.cs, h1, h2]
    | true =>
      cases h3 : inB bound 0 1000000 with
      | false => simp (decide := true) (maxSteps := 4000000) only [go_sem, Nat.reduceAdd, Nat.reduceSub, Nat.reduceMul, Nat.reduceDiv, Nat.reduceMod, Nat.reduceLT, Nat.reduceLeDiff, Nat.reduceEqDiff, Nat.reduceBEq, Nat.reduceBNe, Nat.reduceGT, Int.reduceAdd, Int.reduceSub, Int.reduceMul, Int.reduceNeg, Int.reduceLT, Int.reduceLE, Int.reduceEq, Int.reduceNe, Int.reduceBEq, Int.reduceBNe, Int.reduceToNat, Int.reduceGT, Int.reduceGE, ↓reduceIte, decide_true, decide_false, Try.f28, Span.t, Span.cs, h1, h2, h3]
      | true =>
        have h1' := h1
        have h2' := inB_iff.1 h2
        have h3' := inB_iff.1 h3
        simp only [spannedB, Bool.and_eq_true, decide_eq_true_eq] at h1'
        have w0 : IntKind.i64.wrap (0 - bound) = -bound := by rw [wrap_in (by omega) (by omega)]; omega
        have w1 : IntKind.i64.wrap (-bound - t.lo) = -bound - t.lo := wrap_in (by omega) (by omega)
        have w2 : IntKind.i64.wrap (bound - t.hi) = bound - t.hi := wrap_in (by omega) (by omega)
        have c1 : 0 < worth ∧ -4000000000000000000 ≤ -bound - t.lo ∧ -bound - t.lo ≤ 4000000000000000000 := by omega
        have c2 : 0 < worth ∧ -4000000000000000000 ≤ bound - t.hi ∧ bound - t.hi ≤ 4000000000000000000 := by omega
        by_cases g1 : -((-(-bound - t.lo)) / worth) > (bound - t.hi) / worth
        · simp (decide := true) (maxSteps := 4000000) only [go_sem, Nat.reduceAdd, Nat.reduceSub, Nat.reduceMul, Nat.reduceDiv, Nat.reduceMod, Nat.reduceLT, Nat.reduceLeDiff, Nat.reduceEqDiff, Nat.reduceBEq, Nat.reduceBNe, Nat.reduceGT, Int.reduceAdd, Int.reduceSub, Int.reduceMul, Int.reduceNeg, Int.reduceLT, Int.reduceLE, Int.reduceEq, Int.reduceNe, Int.reduceBEq, Int.reduceBNe, Int.reduceToNat, Int.reduceGT, Int.reduceGE, ↓reduceIte, decide_true, decide_false, Try.f28, Span.t, Span.cs, h1, h2, h3, w0, w1, w2, c1, c2, g1]
        · by_cases g2 : -((-(-bound - t.lo)) / worth) > 0
          · simp (decide := true) (maxSteps := 4000000) only [go_sem, Nat.reduceAdd, Nat.reduceSub, Nat.reduceMul, Nat.reduceDiv, Nat.reduceMod, Nat.reduceLT, Nat.reduceLeDiff, Nat.reduceEqDiff, Nat.reduceBEq, Nat.reduceBNe, Nat.reduceGT, Int.reduceAdd, Int.reduceSub, Int.reduceMul, Int.reduceNeg, Int.reduceLT, Int.reduceLE, Int.reduceEq, Int.reduceNe, Int.reduceBEq, Int.reduceBNe, Int.reduceToNat, Int.reduceGT, Int.reduceGE, ↓reduceIte, decide_true, decide_false, Try.f28, Span.t, Span.cs, h1, h2, h3, w0, w1, w2, c1, c2, g1, g2]
          · by_cases g3 : (bound - t.hi) / worth < 0 <;> simp (decide := true) (maxSteps := 4000000) only [go_sem, Nat.reduceAdd, Nat.reduceSub, Nat.reduceMul, Nat.reduceDiv, Nat.reduceMod, Nat.reduceLT, Nat.reduceLeDiff, Nat.reduceEqDiff, Nat.reduceBEq, Nat.reduceBNe, Nat.reduceGT, Int.reduceAdd, Int.reduceSub, Int.reduceMul, Int.reduceNeg, Int.reduceLT, Int.reduceLE, Int.reduceEq, Int.reduceNe, Int.reduceBEq, Int.reduceBNe, Int.reduceToNat, Int.reduceGT, Int.reduceGE, ↓reduceIte, decide_true, decide_false, Try.f28, Span.t, Span.cs, h1, h2, h3, w0, w1, w2, c1, c2, g1, g2, g3]
end Go.Proofs.Ytgofljmnlfnlnaa
