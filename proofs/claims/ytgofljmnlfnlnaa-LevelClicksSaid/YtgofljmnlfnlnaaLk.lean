/- Level: the law of the clicks. -/
import Derived.Test.YtgofljmnlfnlnaaLj
import Derived.Test.YtgofljmnlfnlnaaQmYb
import Derived.Test.YtgofljmnlfnlnaaQmZc
namespace Go.Proofs.Ytgofljmnlfnlnaa
open Go.RowKit Go.Pm Go.Oc
set_option maxRecDepth 100000
set_option linter.unusedVariables false
set_option maxHeartbeats 4000000

theorem rClicks_c (t : Span) (worth bound : Int) : PCalls Try.prog 29 [t.t, .int .i64 worth, .int .i64 bound] (.tup [.int .i64 (clicksP t worth bound).1, .int .i64 (clicksP t worth bound).2]) := by
  refine pcalls_by Try.mixes spB3_ok (fn := Try.f29) Try.func29 rfl (by kernel_rfl) (by show 3 ≤ _; decide) ?_
  unfold clicksP
  cases h1 : spannedB t (-1000000) 1000000 with
  | false => simp (decide := true) (maxSteps := 4000000) only [go_sem, Nat.reduceAdd, Nat.reduceSub, Nat.reduceMul, Nat.reduceDiv, Nat.reduceMod, Nat.reduceLT, Nat.reduceLeDiff, Nat.reduceEqDiff, Nat.reduceBEq, Nat.reduceBNe, Nat.reduceGT, Int.reduceAdd, Int.reduceSub, Int.reduceMul, Int.reduceNeg, Int.reduceLT, Int.reduceLE, Int.reduceEq, Int.reduceNe, Int.reduceBEq, Int.reduceBNe, Int.reduceToNat, Int.reduceGT, Int.reduceGE, ↓reduceIte, decide_true, decide_false, Try.f29, Span.t, Span.cs, h1]
  | true =>
    cases h2 : inB worth 1 100 with
    | false => simp (decide := true) (maxSteps := 4000000) only [go_sem, Nat.reduceAdd, Nat.reduceSub, Nat.reduceMul, Nat.reduceDiv, Nat.reduceMod, Nat.reduceLT, Nat.reduceLeDiff, Nat.reduceEqDiff, Nat.reduceBEq, Nat.reduceBNe, Nat.reduceGT, Int.reduceAdd, Int.reduceSub, Int.reduceMul, Int.reduceNeg, Int.reduceLT, Int.reduceLE, Int.reduceEq, Int.reduceNe, Int.reduceBEq, Int.reduceBNe, Int.reduceToNat, Int.reduceGT, Int.reduceGE, ↓reduceIte, decide_true, decide_false, Try.f29, Span.t, Span.cs, h1, h2]
    | true =>
      cases h3 : inB bound 0 1000000 with
      | false => simp (decide := true) (maxSteps := 4000000) only [go_sem, Nat.reduceAdd, Nat.reduceSub, Nat.reduceMul, Nat.reduceDiv, Nat.reduceMod, Nat.reduceLT, Nat.reduceLeDiff, Nat.reduceEqDiff, Nat.reduceBEq, Nat.reduceBNe, Nat.reduceGT, Int.reduceAdd, Int.reduceSub, Int.reduceMul, Int.reduceNeg, Int.reduceLT, Int.reduceLE, Int.reduceEq, Int.reduceNe, Int.reduceBEq, Int.reduceBNe, Int.reduceToNat, Int.reduceGT, Int.reduceGE, ↓reduceIte, decide_true, decide_false, Try.f29, Span.t, Span.cs, h1, h2, h3]
      | true =>
        have h1' := h1
        have h2' := inB_iff.1 h2
        have h3' := inB_iff.1 h3
        simp only [spannedB, Bool.and_eq_true, decide_eq_true_eq] at h1'
        have w0 : IntKind.i64.wrap (0 - bound) = -bound := by rw [wrap_in (by omega) (by omega)]; omega
        have w1 : IntKind.i64.wrap (-bound - t.lo) = -bound - t.lo := wrap_in (by omega) (by omega)
        have w2 : IntKind.i64.wrap (bound - t.hi) = bound - t.hi := wrap_in (by omega) (by omega)
        have c0 : 0 < worth ∧ worth ≤ 4000000000000000000 := by omega
        have c1 : -4000000000000000000 ≤ -bound - t.lo ∧ -bound - t.lo ≤ 4000000000000000000 := by omega
        have c2 : -4000000000000000000 ≤ bound - t.hi ∧ bound - t.hi ≤ 4000000000000000000 := by omega
        by_cases g1 : -((-(-bound - t.lo)) / worth) > (bound - t.hi) / worth
        · simp (decide := true) (maxSteps := 4000000) only [go_sem, Nat.reduceAdd, Nat.reduceSub, Nat.reduceMul, Nat.reduceDiv, Nat.reduceMod, Nat.reduceLT, Nat.reduceLeDiff, Nat.reduceEqDiff, Nat.reduceBEq, Nat.reduceBNe, Nat.reduceGT, Int.reduceAdd, Int.reduceSub, Int.reduceMul, Int.reduceNeg, Int.reduceLT, Int.reduceLE, Int.reduceEq, Int.reduceNe, Int.reduceBEq, Int.reduceBNe, Int.reduceToNat, Int.reduceGT, Int.reduceGE, ↓reduceIte, decide_true, decide_false, Try.f29, Span.t, Span.cs, h1, h2, h3, w0, w1, w2, c0, c1, c2, g1]
        · by_cases g2 : -((-(-bound - t.lo)) / worth) > 0
          · simp (decide := true) (maxSteps := 4000000) only [go_sem, Nat.reduceAdd, Nat.reduceSub, Nat.reduceMul, Nat.reduceDiv, Nat.reduceMod, Nat.reduceLT, Nat.reduceLeDiff, Nat.reduceEqDiff, Nat.reduceBEq, Nat.reduceBNe, Nat.reduceGT, Int.reduceAdd, Int.reduceSub, Int.reduceMul, Int.reduceNeg, Int.reduceLT, Int.reduceLE, Int.reduceEq, Int.reduceNe, Int.reduceBEq, Int.reduceBNe, Int.reduceToNat, Int.reduceGT, Int.reduceGE, ↓reduceIte, decide_true, decide_false, Try.f29, Span.t, Span.cs, h1, h2, h3, w0, w1, w2, c0, c1, c2, g1, g2]
          · by_cases g3 : (bound - t.hi) / worth < 0
            · simp (decide := true) (maxSteps := 4000000) only [go_sem, Nat.reduceAdd, Nat.reduceSub, Nat.reduceMul, Nat.reduceDiv, Nat.reduceMod, Nat.reduceLT, Nat.reduceLeDiff, Nat.reduceEqDiff, Nat.reduceBEq, Nat.reduceBNe, Nat.reduceGT, Int.reduceAdd, Int.reduceSub, Int.reduceMul, Int.reduceNeg, Int.reduceLT, Int.reduceLE, Int.reduceEq, Int.reduceNe, Int.reduceBEq, Int.reduceBNe, Int.reduceToNat, Int.reduceGT, Int.reduceGE, ↓reduceIte, decide_true, decide_false, Try.f29, Span.t, Span.cs, h1, h2, h3, w0, w1, w2, c0, c1, c2, g1, g2, g3]
              omega
            · simp (decide := true) (maxSteps := 4000000) only [go_sem, Nat.reduceAdd, Nat.reduceSub, Nat.reduceMul, Nat.reduceDiv, Nat.reduceMod, Nat.reduceLT, Nat.reduceLeDiff, Nat.reduceEqDiff, Nat.reduceBEq, Nat.reduceBNe, Nat.reduceGT, Int.reduceAdd, Int.reduceSub, Int.reduceMul, Int.reduceNeg, Int.reduceLT, Int.reduceLE, Int.reduceEq, Int.reduceNe, Int.reduceBEq, Int.reduceBNe, Int.reduceToNat, Int.reduceGT, Int.reduceGE, ↓reduceIte, decide_true, decide_false, Try.f29, Span.t, Span.cs, h1, h2, h3, w0, w1, w2, c0, c1, c2, g1, g2, g3]
              omega
noncomputable def grClicks : List TV → Option TV
  | [.agg [.int .i64 a, .int .i64 b], .int .i64 w, .int .i64 c] => some (.tup [.int .i64 (clicksP ⟨a, b⟩ w c).1, .int .i64 (clicksP ⟨a, b⟩ w c).2])
  | _ => none
theorem grClicks_ok : ∀ xs r, grClicks xs = some r → PCalls Try.prog 29 xs r := by
  intro xs r h
  unfold grClicks at h
  split at h
  · cases h; exact rClicks_c ⟨_, _⟩ _ _
  · cases h
attribute [go_sem] grClicks
noncomputable def goWorks : List TV → Option TV
  | [] => some (.bool true)
  | _ => none
theorem goWorks_ok : ∀ xs r, goWorks xs = some r → PCalls Try.prog 22 xs r := by
  intro xs r h
  unfold goWorks at h
  split at h
  · cases h; exact oWorks_c
  · cases h
attribute [go_sem] goWorks
noncomputable def spK1 : Pm.Spec := (spJ3.one 22 goWorks).one 29 grClicks
attribute [go_sem] spK1
theorem spK1_ok : SpecOk Try.prog spK1 := Spec.one_ok grClicks_ok (Spec.one_ok goWorks_ok spJ3_ok)
theorem LevelClicks_c (t : Span) (w c : Int) : PCalls Try.prog 6 [t.t, .int .i64 w, .int .i64 c] (.bool true) := by
  refine pcalls_by Try.mixes spK1_ok (fn := Try.f6) Try.func6 rfl (by kernel_rfl) (by show 3 ≤ _; decide) ?_
  simp (decide := true) (maxSteps := 4000000) only [go_sem, Nat.reduceAdd, Nat.reduceSub, Nat.reduceMul, Nat.reduceDiv, Nat.reduceMod, Nat.reduceLT, Nat.reduceLeDiff, Nat.reduceEqDiff, Nat.reduceBEq, Nat.reduceBNe, Nat.reduceGT, Int.reduceAdd, Int.reduceSub, Int.reduceMul, Int.reduceNeg, Int.reduceLT, Int.reduceLE, Int.reduceEq, Int.reduceNe, Int.reduceBEq, Int.reduceBNe, Int.reduceToNat, Int.reduceGT, Int.reduceGE, ↓reduceIte, decide_true, decide_false, eq_self, Nat.mul_one, Nat.zero_mul, Nat.one_mul, Int.le_refl, Nat.le_refl, Int.cast_ofNat_Int, Try.f6, Span.t, Span.cs, beq_self_eq_true]
end Go.Proofs.Ytgofljmnlfnlnaa
