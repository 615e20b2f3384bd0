/- What the claim leans on, text 5. -/
import Derived.Test.YtadkjjnnnkfalaaC4
set_option linter.unusedSimpArgs false
set_option linter.unusedVariables false

/- Part Gc. -/
namespace Go.Oc.Gl
end Go.Oc.Gl
namespace Go.Proofs.Ytadkjjnnnkfalaa.Gl
end Go.Proofs.Ytadkjjnnnkfalaa.Gl
namespace Go.Proofs.Ytadkjjnnnkfalaa.Gl
open Go.RowKit Go.Pm Go.Oc Go.Oc.Gl
set_option maxRecDepth 100000
set_option linter.unusedVariables false
set_option maxHeartbeats 4000000

theorem gCheck_c {B : List Blank} {T : List Span} {sB sT : TV} (hB : IsRow Blank.cs sB B) (hT : IsRow Span.cs sT T) (hlB : B.length ≤ 5864062014806) (hlT : T.length ≤ 9000000000000) : PCalls Try.prog 14 [.agg [sB, sT]] (.int .i64 (if stockOk B T then 0 else 40)) := by
  refine pcalls_by Try.mixes spU3_ok (fn := Try.f14) Try.func14 rfl (by kernel_rfl) (by show 1 ≤ _; decide) ?_
  have hz := accB_zero B T
  have hz2 := accT_zero B T
  rcases hB with ⟨rfl, rfl⟩ | ⟨fB, rfl⟩ <;> rcases hT with ⟨rfl, rfl⟩ | ⟨fT, rfl⟩
  · simp (decide := true) (maxSteps := 4000000) only [go_sem, Nat.reduceAdd, Nat.reduceSub, Nat.reduceMul, Nat.reduceDiv, Nat.reduceMod, Nat.reduceLT, Nat.reduceLeDiff, Nat.reduceEqDiff, Nat.reduceBEq, Nat.reduceBNe, Nat.reduceGT, Int.reduceAdd, Int.reduceSub, Int.reduceMul, Int.reduceNeg, Int.reduceLT, Int.reduceLE, Int.reduceEq, Int.reduceNe, Int.reduceBEq, Int.reduceBNe, Int.reduceToNat, Int.reduceGT, Int.reduceGE, ↓reduceIte, decide_true, decide_false, eq_self, Nat.mul_one, Nat.zero_mul, Nat.one_mul, Int.le_refl, Nat.le_refl, Int.cast_ofNat_Int, Try.f14, List.length_nil]
    refine pwpC_loopU (A := Unit) [1, 19, 20] (fun _ => [(21, .t (.int .i64 0)), (3, .t (.bool (accB [] ([] : List Span) 0)))]) (fun _ => []) (fun _ => 0) () (by decide) (fun _ => by rfl) ?_ fun Q1 hQ1 _ I1 hI1 => ?_
    · simp (decide := true) (maxSteps := 4000000) only [go_sem, Nat.reduceAdd, Nat.reduceSub, Nat.reduceMul, Nat.reduceDiv, Nat.reduceMod, Nat.reduceLT, Nat.reduceLeDiff, Nat.reduceEqDiff, Nat.reduceBEq, Nat.reduceBNe, Nat.reduceGT, Int.reduceAdd, Int.reduceSub, Int.reduceMul, Int.reduceNeg, Int.reduceLT, Int.reduceLE, Int.reduceEq, Int.reduceNe, Int.reduceBEq, Int.reduceBNe, Int.reduceToNat, Int.reduceGT, Int.reduceGE, ↓reduceIte, decide_true, decide_false, eq_self, Nat.mul_one, Nat.zero_mul, Nat.one_mul, Int.le_refl, Nat.le_refl, Int.cast_ofNat_Int, hz, List.length_nil]
      first | done | rfl
    · simp (decide := true) (maxSteps := 4000000) only [go_sem, Nat.reduceAdd, Nat.reduceSub, Nat.reduceMul, Nat.reduceDiv, Nat.reduceMod, Nat.reduceLT, Nat.reduceLeDiff, Nat.reduceEqDiff, Nat.reduceBEq, Nat.reduceBNe, Nat.reduceGT, Int.reduceAdd, Int.reduceSub, Int.reduceMul, Int.reduceNeg, Int.reduceLT, Int.reduceLE, Int.reduceEq, Int.reduceNe, Int.reduceBEq, Int.reduceBNe, Int.reduceToNat, Int.reduceGT, Int.reduceGE, ↓reduceIte, decide_true, decide_false, eq_self, Nat.mul_one, Nat.zero_mul, Nat.one_mul, Int.le_refl, Nat.le_refl, Int.cast_ofNat_Int]
      refine hQ1 _ _ ?_
      simp (decide := true) (maxSteps := 4000000) only [go_sem, Nat.reduceAdd, Nat.reduceSub, Nat.reduceMul, Nat.reduceDiv, Nat.reduceMod, Nat.reduceLT, Nat.reduceLeDiff, Nat.reduceEqDiff, Nat.reduceBEq, Nat.reduceBNe, Nat.reduceGT, Int.reduceAdd, Int.reduceSub, Int.reduceMul, Int.reduceNeg, Int.reduceLT, Int.reduceLE, Int.reduceEq, Int.reduceNe, Int.reduceBEq, Int.reduceBNe, Int.reduceToNat, Int.reduceGT, Int.reduceGE, ↓reduceIte, decide_true, decide_false, eq_self, Nat.mul_one, Nat.zero_mul, Nat.one_mul, Int.le_refl, Nat.le_refl, Int.cast_ofNat_Int]
      refine pwpC_loopU (A := Unit) [1, 45, 46] (fun _ => [(47, .t (.int .i64 0)), (3, .t (.bool (accT [] [] 0)))]) (fun _ => []) (fun _ => 0) () (by decide) (fun _ => by rfl) ?_ fun Q2 hQ2 _ I2 hI2 => ?_
      · simp (decide := true) (maxSteps := 4000000) only [go_sem, Nat.reduceAdd, Nat.reduceSub, Nat.reduceMul, Nat.reduceDiv, Nat.reduceMod, Nat.reduceLT, Nat.reduceLeDiff, Nat.reduceEqDiff, Nat.reduceBEq, Nat.reduceBNe, Nat.reduceGT, Int.reduceAdd, Int.reduceSub, Int.reduceMul, Int.reduceNeg, Int.reduceLT, Int.reduceLE, Int.reduceEq, Int.reduceNe, Int.reduceBEq, Int.reduceBNe, Int.reduceToNat, Int.reduceGT, Int.reduceGE, ↓reduceIte, decide_true, decide_false, eq_self, Nat.mul_one, Nat.zero_mul, Nat.one_mul, Int.le_refl, Nat.le_refl, Int.cast_ofNat_Int, hz2, List.length_nil]
        first | done | rfl
      · simp (decide := true) (maxSteps := 4000000) only [go_sem, Nat.reduceAdd, Nat.reduceSub, Nat.reduceMul, Nat.reduceDiv, Nat.reduceMod, Nat.reduceLT, Nat.reduceLeDiff, Nat.reduceEqDiff, Nat.reduceBEq, Nat.reduceBNe, Nat.reduceGT, Int.reduceAdd, Int.reduceSub, Int.reduceMul, Int.reduceNeg, Int.reduceLT, Int.reduceLE, Int.reduceEq, Int.reduceNe, Int.reduceBEq, Int.reduceBNe, Int.reduceToNat, Int.reduceGT, Int.reduceGE, ↓reduceIte, decide_true, decide_false, eq_self, Nat.mul_one, Nat.zero_mul, Nat.one_mul, Int.le_refl, Nat.le_refl, Int.cast_ofNat_Int]
        refine hQ2 _ _ ?_
        have hno : accT [] [] 0 = false := by rw [hz2, show accB [] [] _ = (_ && _) from rfl]; simp [accB, inB]
        have hso := accT_false hno
        simp (decide := true) (maxSteps := 4000000) only [go_sem, Nat.reduceAdd, Nat.reduceSub, Nat.reduceMul, Nat.reduceDiv, Nat.reduceMod, Nat.reduceLT, Nat.reduceLeDiff, Nat.reduceEqDiff, Nat.reduceBEq, Nat.reduceBNe, Nat.reduceGT, Int.reduceAdd, Int.reduceSub, Int.reduceMul, Int.reduceNeg, Int.reduceLT, Int.reduceLE, Int.reduceEq, Int.reduceNe, Int.reduceBEq, Int.reduceBNe, Int.reduceToNat, Int.reduceGT, Int.reduceGE, ↓reduceIte, decide_true, decide_false, eq_self, Nat.mul_one, Nat.zero_mul, Nat.one_mul, Int.le_refl, Nat.le_refl, Int.cast_ofNat_Int, hno, hso]
  · simp (decide := true) (maxSteps := 4000000) only [go_sem, Nat.reduceAdd, Nat.reduceSub, Nat.reduceMul, Nat.reduceDiv, Nat.reduceMod, Nat.reduceLT, Nat.reduceLeDiff, Nat.reduceEqDiff, Nat.reduceBEq, Nat.reduceBNe, Nat.reduceGT, Int.reduceAdd, Int.reduceSub, Int.reduceMul, Int.reduceNeg, Int.reduceLT, Int.reduceLE, Int.reduceEq, Int.reduceNe, Int.reduceBEq, Int.reduceBNe, Int.reduceToNat, Int.reduceGT, Int.reduceGE, ↓reduceIte, decide_true, decide_false, eq_self, Nat.mul_one, Nat.zero_mul, Nat.one_mul, Int.le_refl, Nat.le_refl, Int.cast_ofNat_Int, Try.f14, List.length_nil]
    refine pwpC_loopU (A := Unit) [1, 19, 20] (fun _ => [(21, .t (.int .i64 0)), (3, .t (.bool (accB [] T 0)))]) (fun _ => []) (fun _ => 0) () (by decide) (fun _ => by rfl) ?_ fun Q1 hQ1 _ I1 hI1 => ?_
    · simp (decide := true) (maxSteps := 4000000) only [go_sem, Nat.reduceAdd, Nat.reduceSub, Nat.reduceMul, Nat.reduceDiv, Nat.reduceMod, Nat.reduceLT, Nat.reduceLeDiff, Nat.reduceEqDiff, Nat.reduceBEq, Nat.reduceBNe, Nat.reduceGT, Int.reduceAdd, Int.reduceSub, Int.reduceMul, Int.reduceNeg, Int.reduceLT, Int.reduceLE, Int.reduceEq, Int.reduceNe, Int.reduceBEq, Int.reduceBNe, Int.reduceToNat, Int.reduceGT, Int.reduceGE, ↓reduceIte, decide_true, decide_false, eq_self, Nat.mul_one, Nat.zero_mul, Nat.one_mul, Int.le_refl, Nat.le_refl, Int.cast_ofNat_Int, hz, List.length_nil]
      first | done | rfl
    · simp (decide := true) (maxSteps := 4000000) only [go_sem, Nat.reduceAdd, Nat.reduceSub, Nat.reduceMul, Nat.reduceDiv, Nat.reduceMod, Nat.reduceLT, Nat.reduceLeDiff, Nat.reduceEqDiff, Nat.reduceBEq, Nat.reduceBNe, Nat.reduceGT, Int.reduceAdd, Int.reduceSub, Int.reduceMul, Int.reduceNeg, Int.reduceLT, Int.reduceLE, Int.reduceEq, Int.reduceNe, Int.reduceBEq, Int.reduceBNe, Int.reduceToNat, Int.reduceGT, Int.reduceGE, ↓reduceIte, decide_true, decide_false, eq_self, Nat.mul_one, Nat.zero_mul, Nat.one_mul, Int.le_refl, Nat.le_refl, Int.cast_ofNat_Int]
      refine hQ1 _ _ ?_
      simp (decide := true) (maxSteps := 4000000) only [go_sem, Nat.reduceAdd, Nat.reduceSub, Nat.reduceMul, Nat.reduceDiv, Nat.reduceMod, Nat.reduceLT, Nat.reduceLeDiff, Nat.reduceEqDiff, Nat.reduceBEq, Nat.reduceBNe, Nat.reduceGT, Int.reduceAdd, Int.reduceSub, Int.reduceMul, Int.reduceNeg, Int.reduceLT, Int.reduceLE, Int.reduceEq, Int.reduceNe, Int.reduceBEq, Int.reduceBNe, Int.reduceToNat, Int.reduceGT, Int.reduceGE, ↓reduceIte, decide_true, decide_false, eq_self, Nat.mul_one, Nat.zero_mul, Nat.one_mul, Int.le_refl, Nat.le_refl, Int.cast_ofNat_Int]
      refine pwpC_loopU (A := { k : Nat // k ≤ T.length }) [1, 45, 46] (fun k => [(47, .t (.int .i64 k.1)), (3, .t (.bool (accT [] T k.1)))]) (fun _ => []) (fun k => T.length - k.1) ⟨0, by omega⟩ (by decide) (fun _ => by rfl) ?_ fun Q2 hQ2 ⟨j, hj⟩ I2 hI2 => ?_
      · simp (decide := true) (maxSteps := 4000000) only [go_sem, Nat.reduceAdd, Nat.reduceSub, Nat.reduceMul, Nat.reduceDiv, Nat.reduceMod, Nat.reduceLT, Nat.reduceLeDiff, Nat.reduceEqDiff, Nat.reduceBEq, Nat.reduceBNe, Nat.reduceGT, Int.reduceAdd, Int.reduceSub, Int.reduceMul, Int.reduceNeg, Int.reduceLT, Int.reduceLE, Int.reduceEq, Int.reduceNe, Int.reduceBEq, Int.reduceBNe, Int.reduceToNat, Int.reduceGT, Int.reduceGE, ↓reduceIte, decide_true, decide_false, eq_self, Nat.mul_one, Nat.zero_mul, Nat.one_mul, Int.le_refl, Nat.le_refl, Int.cast_ofNat_Int, hz2, List.length_nil]
        first | done | rfl
      · by_cases hlt2 : (j : Int) < T.length
        · obtain ⟨y, hy⟩ := get_lt hlt2
          have hd2 := flat_at Span.cs (n := 2) (fun _ => rfl) hy
          have hc2 : IntKind.i64.wrap (j + 1) = ((j + 1 : Nat) : Int) := by rw [wrap_in (by omega) (by omega)]; omega
          have hs2 := accT_succ [] hy
          unfold toolOk at hs2
          cases hok2 : accT [] T j <;> cases h4 : spannedB y (-1000) 1000 <;> rw [hok2, h4] at hs2
          all_goals simp (decide := true) (maxSteps := 4000000) only [go_sem, Nat.reduceAdd, Nat.reduceSub, Nat.reduceMul, Nat.reduceDiv, Nat.reduceMod, Nat.reduceLT, Nat.reduceLeDiff, Nat.reduceEqDiff, Nat.reduceBEq, Nat.reduceBNe, Nat.reduceGT, Int.reduceAdd, Int.reduceSub, Int.reduceMul, Int.reduceNeg, Int.reduceLT, Int.reduceLE, Int.reduceEq, Int.reduceNe, Int.reduceBEq, Int.reduceBNe, Int.reduceToNat, Int.reduceGT, Int.reduceGE, ↓reduceIte, decide_true, decide_false, eq_self, Nat.mul_one, Nat.zero_mul, Nat.one_mul, Int.le_refl, Nat.le_refl, Int.cast_ofNat_Int, hlt2, hd2, Span.cs, hok2, h4]
          all_goals refine hI2 _ ⟨j + 1, by omega⟩ (by simp only; omega) ?_
          all_goals simp (decide := true) (maxSteps := 4000000) only [go_sem, Nat.reduceAdd, Nat.reduceSub, Nat.reduceMul, Nat.reduceDiv, Nat.reduceMod, Nat.reduceLT, Nat.reduceLeDiff, Nat.reduceEqDiff, Nat.reduceBEq, Nat.reduceBNe, Nat.reduceGT, Int.reduceAdd, Int.reduceSub, Int.reduceMul, Int.reduceNeg, Int.reduceLT, Int.reduceLE, Int.reduceEq, Int.reduceNe, Int.reduceBEq, Int.reduceBNe, Int.reduceToNat, Int.reduceGT, Int.reduceGE, ↓reduceIte, decide_true, decide_false, eq_self, Nat.mul_one, Nat.zero_mul, Nat.one_mul, Int.le_refl, Nat.le_refl, Int.cast_ofNat_Int, hc2, hs2, Bool.and_true, Bool.and_false, Bool.and_self, Bool.false_and]
        · have hje : j = T.length := by omega
          subst hje
          simp (decide := true) (maxSteps := 4000000) only [go_sem, Nat.reduceAdd, Nat.reduceSub, Nat.reduceMul, Nat.reduceDiv, Nat.reduceMod, Nat.reduceLT, Nat.reduceLeDiff, Nat.reduceEqDiff, Nat.reduceBEq, Nat.reduceBNe, Nat.reduceGT, Int.reduceAdd, Int.reduceSub, Int.reduceMul, Int.reduceNeg, Int.reduceLT, Int.reduceLE, Int.reduceEq, Int.reduceNe, Int.reduceBEq, Int.reduceBNe, Int.reduceToNat, Int.reduceGT, Int.reduceGE, ↓reduceIte, decide_true, decide_false, eq_self, Nat.mul_one, Nat.zero_mul, Nat.one_mul, Int.le_refl, Nat.le_refl, Int.cast_ofNat_Int, hlt2]
          refine hQ2 _ _ ?_
          cases hso : stockOk [] T <;> simp (decide := true) (maxSteps := 4000000) only [go_sem, Nat.reduceAdd, Nat.reduceSub, Nat.reduceMul, Nat.reduceDiv, Nat.reduceMod, Nat.reduceLT, Nat.reduceLeDiff, Nat.reduceEqDiff, Nat.reduceBEq, Nat.reduceBNe, Nat.reduceGT, Int.reduceAdd, Int.reduceSub, Int.reduceMul, Int.reduceNeg, Int.reduceLT, Int.reduceLE, Int.reduceEq, Int.reduceNe, Int.reduceBEq, Int.reduceBNe, Int.reduceToNat, Int.reduceGT, Int.reduceGE, ↓reduceIte, decide_true, decide_false, eq_self, Nat.mul_one, Nat.zero_mul, Nat.one_mul, Int.le_refl, Nat.le_refl, Int.cast_ofNat_Int, accT_all, hso]
  · simp (decide := true) (maxSteps := 4000000) only [go_sem, Nat.reduceAdd, Nat.reduceSub, Nat.reduceMul, Nat.reduceDiv, Nat.reduceMod, Nat.reduceLT, Nat.reduceLeDiff, Nat.reduceEqDiff, Nat.reduceBEq, Nat.reduceBNe, Nat.reduceGT, Int.reduceAdd, Int.reduceSub, Int.reduceMul, Int.reduceNeg, Int.reduceLT, Int.reduceLE, Int.reduceEq, Int.reduceNe, Int.reduceBEq, Int.reduceBNe, Int.reduceToNat, Int.reduceGT, Int.reduceGE, ↓reduceIte, decide_true, decide_false, eq_self, Nat.mul_one, Nat.zero_mul, Nat.one_mul, Int.le_refl, Nat.le_refl, Int.cast_ofNat_Int, Try.f14, List.length_nil]
    refine pwpC_loopU (A := { k : Nat // k ≤ B.length }) [1, 19, 20] (fun k => [(21, .t (.int .i64 k.1)), (3, .t (.bool (accB B ([] : List Span) k.1)))]) (fun _ => []) (fun k => B.length - k.1) ⟨0, by omega⟩ (by decide) (fun _ => by rfl) ?_ fun Q1 hQ1 ⟨k, hk⟩ I1 hI1 => ?_
    · simp (decide := true) (maxSteps := 4000000) only [go_sem, Nat.reduceAdd, Nat.reduceSub, Nat.reduceMul, Nat.reduceDiv, Nat.reduceMod, Nat.reduceLT, Nat.reduceLeDiff, Nat.reduceEqDiff, Nat.reduceBEq, Nat.reduceBNe, Nat.reduceGT, Int.reduceAdd, Int.reduceSub, Int.reduceMul, Int.reduceNeg, Int.reduceLT, Int.reduceLE, Int.reduceEq, Int.reduceNe, Int.reduceBEq, Int.reduceBNe, Int.reduceToNat, Int.reduceGT, Int.reduceGE, ↓reduceIte, decide_true, decide_false, eq_self, Nat.mul_one, Nat.zero_mul, Nat.one_mul, Int.le_refl, Nat.le_refl, Int.cast_ofNat_Int, hz, List.length_nil]
      first | done | rfl
    · by_cases hlt : (k : Int) < B.length
      · obtain ⟨x, hx⟩ := get_lt hlt
        have hd := flat_at Blank.cs (n := 5) (fun _ => rfl) hx
        have hc1 : IntKind.i64.wrap (k + 1) = ((k + 1 : Nat) : Int) := by rw [wrap_in (by omega) (by omega)]; omega
        have hs := accB_succ ([] : List Span) hx
        unfold blankOk at hs
        cases hok : accB B ([] : List Span) k <;> cases h1 : spannedB x.i 1 100000 <;> cases h2 : spannedB x.c 1 5000 <;> cases h3 : inB x.pr 0 1000000 <;> rw [hok, h1, h2, h3] at hs
        all_goals simp (decide := true) (maxSteps := 4000000) only [go_sem, Nat.reduceAdd, Nat.reduceSub, Nat.reduceMul, Nat.reduceDiv, Nat.reduceMod, Nat.reduceLT, Nat.reduceLeDiff, Nat.reduceEqDiff, Nat.reduceBEq, Nat.reduceBNe, Nat.reduceGT, Int.reduceAdd, Int.reduceSub, Int.reduceMul, Int.reduceNeg, Int.reduceLT, Int.reduceLE, Int.reduceEq, Int.reduceNe, Int.reduceBEq, Int.reduceBNe, Int.reduceToNat, Int.reduceGT, Int.reduceGE, ↓reduceIte, decide_true, decide_false, eq_self, Nat.mul_one, Nat.zero_mul, Nat.one_mul, Int.le_refl, Nat.le_refl, Int.cast_ofNat_Int, hlt, hd, Blank.cs, hok, h1, h2, h3]
        all_goals refine hI1 _ ⟨k + 1, by omega⟩ (by simp only; omega) ?_
        all_goals simp (decide := true) (maxSteps := 4000000) only [go_sem, Nat.reduceAdd, Nat.reduceSub, Nat.reduceMul, Nat.reduceDiv, Nat.reduceMod, Nat.reduceLT, Nat.reduceLeDiff, Nat.reduceEqDiff, Nat.reduceBEq, Nat.reduceBNe, Nat.reduceGT, Int.reduceAdd, Int.reduceSub, Int.reduceMul, Int.reduceNeg, Int.reduceLT, Int.reduceLE, Int.reduceEq, Int.reduceNe, Int.reduceBEq, Int.reduceBNe, Int.reduceToNat, Int.reduceGT, Int.reduceGE, ↓reduceIte, decide_true, decide_false, eq_self, Nat.mul_one, Nat.zero_mul, Nat.one_mul, Int.le_refl, Nat.le_refl, Int.cast_ofNat_Int, hc1, hs, Bool.and_true, Bool.and_false, Bool.and_self, Bool.false_and]
      · have hke : k = B.length := by omega
        subst hke
        simp (decide := true) (maxSteps := 4000000) only [go_sem, Nat.reduceAdd, Nat.reduceSub, Nat.reduceMul, Nat.reduceDiv, Nat.reduceMod, Nat.reduceLT, Nat.reduceLeDiff, Nat.reduceEqDiff, Nat.reduceBEq, Nat.reduceBNe, Nat.reduceGT, Int.reduceAdd, Int.reduceSub, Int.reduceMul, Int.reduceNeg, Int.reduceLT, Int.reduceLE, Int.reduceEq, Int.reduceNe, Int.reduceBEq, Int.reduceBNe, Int.reduceToNat, Int.reduceGT, Int.reduceGE, ↓reduceIte, decide_true, decide_false, eq_self, Nat.mul_one, Nat.zero_mul, Nat.one_mul, Int.le_refl, Nat.le_refl, Int.cast_ofNat_Int, hlt]
        refine hQ1 _ _ ?_
        simp (decide := true) (maxSteps := 4000000) only [go_sem, Nat.reduceAdd, Nat.reduceSub, Nat.reduceMul, Nat.reduceDiv, Nat.reduceMod, Nat.reduceLT, Nat.reduceLeDiff, Nat.reduceEqDiff, Nat.reduceBEq, Nat.reduceBNe, Nat.reduceGT, Int.reduceAdd, Int.reduceSub, Int.reduceMul, Int.reduceNeg, Int.reduceLT, Int.reduceLE, Int.reduceEq, Int.reduceNe, Int.reduceBEq, Int.reduceBNe, Int.reduceToNat, Int.reduceGT, Int.reduceGE, ↓reduceIte, decide_true, decide_false, eq_self, Nat.mul_one, Nat.zero_mul, Nat.one_mul, Int.le_refl, Nat.le_refl, Int.cast_ofNat_Int]
        refine pwpC_loopU (A := Unit) [1, 45, 46] (fun _ => [(47, .t (.int .i64 0)), (3, .t (.bool (accT B [] 0)))]) (fun _ => []) (fun _ => 0) () (by decide) (fun _ => by rfl) ?_ fun Q2 hQ2 _ I2 hI2 => ?_
        · simp (decide := true) (maxSteps := 4000000) only [go_sem, Nat.reduceAdd, Nat.reduceSub, Nat.reduceMul, Nat.reduceDiv, Nat.reduceMod, Nat.reduceLT, Nat.reduceLeDiff, Nat.reduceEqDiff, Nat.reduceBEq, Nat.reduceBNe, Nat.reduceGT, Int.reduceAdd, Int.reduceSub, Int.reduceMul, Int.reduceNeg, Int.reduceLT, Int.reduceLE, Int.reduceEq, Int.reduceNe, Int.reduceBEq, Int.reduceBNe, Int.reduceToNat, Int.reduceGT, Int.reduceGE, ↓reduceIte, decide_true, decide_false, eq_self, Nat.mul_one, Nat.zero_mul, Nat.one_mul, Int.le_refl, Nat.le_refl, Int.cast_ofNat_Int, hz2, List.length_nil]
          first | done | rfl
        · simp (decide := true) (maxSteps := 4000000) only [go_sem, Nat.reduceAdd, Nat.reduceSub, Nat.reduceMul, Nat.reduceDiv, Nat.reduceMod, Nat.reduceLT, Nat.reduceLeDiff, Nat.reduceEqDiff, Nat.reduceBEq, Nat.reduceBNe, Nat.reduceGT, Int.reduceAdd, Int.reduceSub, Int.reduceMul, Int.reduceNeg, Int.reduceLT, Int.reduceLE, Int.reduceEq, Int.reduceNe, Int.reduceBEq, Int.reduceBNe, Int.reduceToNat, Int.reduceGT, Int.reduceGE, ↓reduceIte, decide_true, decide_false, eq_self, Nat.mul_one, Nat.zero_mul, Nat.one_mul, Int.le_refl, Nat.le_refl, Int.cast_ofNat_Int]
          refine hQ2 _ _ ?_
          have hno : accT B [] 0 = false := by rw [hz2, show accB B [] _ = (_ && _) from rfl]; simp [accB, inB]
          have hso := accT_false hno
          simp (decide := true) (maxSteps := 4000000) only [go_sem, Nat.reduceAdd, Nat.reduceSub, Nat.reduceMul, Nat.reduceDiv, Nat.reduceMod, Nat.reduceLT, Nat.reduceLeDiff, Nat.reduceEqDiff, Nat.reduceBEq, Nat.reduceBNe, Nat.reduceGT, Int.reduceAdd, Int.reduceSub, Int.reduceMul, Int.reduceNeg, Int.reduceLT, Int.reduceLE, Int.reduceEq, Int.reduceNe, Int.reduceBEq, Int.reduceBNe, Int.reduceToNat, Int.reduceGT, Int.reduceGE, ↓reduceIte, decide_true, decide_false, eq_self, Nat.mul_one, Nat.zero_mul, Nat.one_mul, Int.le_refl, Nat.le_refl, Int.cast_ofNat_Int, hno, hso]
  · simp (decide := true) (maxSteps := 4000000) only [go_sem, Nat.reduceAdd, Nat.reduceSub, Nat.reduceMul, Nat.reduceDiv, Nat.reduceMod, Nat.reduceLT, Nat.reduceLeDiff, Nat.reduceEqDiff, Nat.reduceBEq, Nat.reduceBNe, Nat.reduceGT, Int.reduceAdd, Int.reduceSub, Int.reduceMul, Int.reduceNeg, Int.reduceLT, Int.reduceLE, Int.reduceEq, Int.reduceNe, Int.reduceBEq, Int.reduceBNe, Int.reduceToNat, Int.reduceGT, Int.reduceGE, ↓reduceIte, decide_true, decide_false, eq_self, Nat.mul_one, Nat.zero_mul, Nat.one_mul, Int.le_refl, Nat.le_refl, Int.cast_ofNat_Int, Try.f14, List.length_nil]
    refine pwpC_loopU (A := { k : Nat // k ≤ B.length }) [1, 19, 20] (fun k => [(21, .t (.int .i64 k.1)), (3, .t (.bool (accB B T k.1)))]) (fun _ => []) (fun k => B.length - k.1) ⟨0, by omega⟩ (by decide) (fun _ => by rfl) ?_ fun Q1 hQ1 ⟨k, hk⟩ I1 hI1 => ?_
    · simp (decide := true) (maxSteps := 4000000) only [go_sem, Nat.reduceAdd, Nat.reduceSub, Nat.reduceMul, Nat.reduceDiv, Nat.reduceMod, Nat.reduceLT, Nat.reduceLeDiff, Nat.reduceEqDiff, Nat.reduceBEq, Nat.reduceBNe, Nat.reduceGT, Int.reduceAdd, Int.reduceSub, Int.reduceMul, Int.reduceNeg, Int.reduceLT, Int.reduceLE, Int.reduceEq, Int.reduceNe, Int.reduceBEq, Int.reduceBNe, Int.reduceToNat, Int.reduceGT, Int.reduceGE, ↓reduceIte, decide_true, decide_false, eq_self, Nat.mul_one, Nat.zero_mul, Nat.one_mul, Int.le_refl, Nat.le_refl, Int.cast_ofNat_Int, hz, List.length_nil]
      first | done | rfl
    · by_cases hlt : (k : Int) < B.length
      · obtain ⟨x, hx⟩ := get_lt hlt
        have hd := flat_at Blank.cs (n := 5) (fun _ => rfl) hx
        have hc1 : IntKind.i64.wrap (k + 1) = ((k + 1 : Nat) : Int) := by rw [wrap_in (by omega) (by omega)]; omega
        have hs := accB_succ T hx
        unfold blankOk at hs
        cases hok : accB B T k <;> cases h1 : spannedB x.i 1 100000 <;> cases h2 : spannedB x.c 1 5000 <;> cases h3 : inB x.pr 0 1000000 <;> rw [hok, h1, h2, h3] at hs
        all_goals simp (decide := true) (maxSteps := 4000000) only [go_sem, Nat.reduceAdd, Nat.reduceSub, Nat.reduceMul, Nat.reduceDiv, Nat.reduceMod, Nat.reduceLT, Nat.reduceLeDiff, Nat.reduceEqDiff, Nat.reduceBEq, Nat.reduceBNe, Nat.reduceGT, Int.reduceAdd, Int.reduceSub, Int.reduceMul, Int.reduceNeg, Int.reduceLT, Int.reduceLE, Int.reduceEq, Int.reduceNe, Int.reduceBEq, Int.reduceBNe, Int.reduceToNat, Int.reduceGT, Int.reduceGE, ↓reduceIte, decide_true, decide_false, eq_self, Nat.mul_one, Nat.zero_mul, Nat.one_mul, Int.le_refl, Nat.le_refl, Int.cast_ofNat_Int, hlt, hd, Blank.cs, hok, h1, h2, h3]
        all_goals refine hI1 _ ⟨k + 1, by omega⟩ (by simp only; omega) ?_
        all_goals simp (decide := true) (maxSteps := 4000000) only [go_sem, Nat.reduceAdd, Nat.reduceSub, Nat.reduceMul, Nat.reduceDiv, Nat.reduceMod, Nat.reduceLT, Nat.reduceLeDiff, Nat.reduceEqDiff, Nat.reduceBEq, Nat.reduceBNe, Nat.reduceGT, Int.reduceAdd, Int.reduceSub, Int.reduceMul, Int.reduceNeg, Int.reduceLT, Int.reduceLE, Int.reduceEq, Int.reduceNe, Int.reduceBEq, Int.reduceBNe, Int.reduceToNat, Int.reduceGT, Int.reduceGE, ↓reduceIte, decide_true, decide_false, eq_self, Nat.mul_one, Nat.zero_mul, Nat.one_mul, Int.le_refl, Nat.le_refl, Int.cast_ofNat_Int, hc1, hs, Bool.and_true, Bool.and_false, Bool.and_self, Bool.false_and]
      · have hke : k = B.length := by omega
        subst hke
        simp (decide := true) (maxSteps := 4000000) only [go_sem, Nat.reduceAdd, Nat.reduceSub, Nat.reduceMul, Nat.reduceDiv, Nat.reduceMod, Nat.reduceLT, Nat.reduceLeDiff, Nat.reduceEqDiff, Nat.reduceBEq, Nat.reduceBNe, Nat.reduceGT, Int.reduceAdd, Int.reduceSub, Int.reduceMul, Int.reduceNeg, Int.reduceLT, Int.reduceLE, Int.reduceEq, Int.reduceNe, Int.reduceBEq, Int.reduceBNe, Int.reduceToNat, Int.reduceGT, Int.reduceGE, ↓reduceIte, decide_true, decide_false, eq_self, Nat.mul_one, Nat.zero_mul, Nat.one_mul, Int.le_refl, Nat.le_refl, Int.cast_ofNat_Int, hlt]
        refine hQ1 _ _ ?_
        simp (decide := true) (maxSteps := 4000000) only [go_sem, Nat.reduceAdd, Nat.reduceSub, Nat.reduceMul, Nat.reduceDiv, Nat.reduceMod, Nat.reduceLT, Nat.reduceLeDiff, Nat.reduceEqDiff, Nat.reduceBEq, Nat.reduceBNe, Nat.reduceGT, Int.reduceAdd, Int.reduceSub, Int.reduceMul, Int.reduceNeg, Int.reduceLT, Int.reduceLE, Int.reduceEq, Int.reduceNe, Int.reduceBEq, Int.reduceBNe, Int.reduceToNat, Int.reduceGT, Int.reduceGE, ↓reduceIte, decide_true, decide_false, eq_self, Nat.mul_one, Nat.zero_mul, Nat.one_mul, Int.le_refl, Nat.le_refl, Int.cast_ofNat_Int]
        refine pwpC_loopU (A := { k : Nat // k ≤ T.length }) [1, 45, 46] (fun k => [(47, .t (.int .i64 k.1)), (3, .t (.bool (accT B T k.1)))]) (fun _ => []) (fun k => T.length - k.1) ⟨0, by omega⟩ (by decide) (fun _ => by rfl) ?_ fun Q2 hQ2 ⟨j, hj⟩ I2 hI2 => ?_
        · simp (decide := true) (maxSteps := 4000000) only [go_sem, Nat.reduceAdd, Nat.reduceSub, Nat.reduceMul, Nat.reduceDiv, Nat.reduceMod, Nat.reduceLT, Nat.reduceLeDiff, Nat.reduceEqDiff, Nat.reduceBEq, Nat.reduceBNe, Nat.reduceGT, Int.reduceAdd, Int.reduceSub, Int.reduceMul, Int.reduceNeg, Int.reduceLT, Int.reduceLE, Int.reduceEq, Int.reduceNe, Int.reduceBEq, Int.reduceBNe, Int.reduceToNat, Int.reduceGT, Int.reduceGE, ↓reduceIte, decide_true, decide_false, eq_self, Nat.mul_one, Nat.zero_mul, Nat.one_mul, Int.le_refl, Nat.le_refl, Int.cast_ofNat_Int, hz2, List.length_nil]
          first | done | rfl
        · by_cases hlt2 : (j : Int) < T.length
          · obtain ⟨y, hy⟩ := get_lt hlt2
            have hd2 := flat_at Span.cs (n := 2) (fun _ => rfl) hy
            have hc2 : IntKind.i64.wrap (j + 1) = ((j + 1 : Nat) : Int) := by rw [wrap_in (by omega) (by omega)]; omega
            have hs2 := accT_succ B hy
            unfold toolOk at hs2
            cases hok2 : accT B T j <;> cases h4 : spannedB y (-1000) 1000 <;> rw [hok2, h4] at hs2
            all_goals simp (decide := true) (maxSteps := 4000000) only [go_sem, Nat.reduceAdd, Nat.reduceSub, Nat.reduceMul, Nat.reduceDiv, Nat.reduceMod, Nat.reduceLT, Nat.reduceLeDiff, Nat.reduceEqDiff, Nat.reduceBEq, Nat.reduceBNe, Nat.reduceGT, Int.reduceAdd, Int.reduceSub, Int.reduceMul, Int.reduceNeg, Int.reduceLT, Int.reduceLE, Int.reduceEq, Int.reduceNe, Int.reduceBEq, Int.reduceBNe, Int.reduceToNat, Int.reduceGT, Int.reduceGE, ↓reduceIte, decide_true, decide_false, eq_self, Nat.mul_one, Nat.zero_mul, Nat.one_mul, Int.le_refl, Nat.le_refl, Int.cast_ofNat_Int, hlt2, hd2, Span.cs, hok2, h4]
            all_goals refine hI2 _ ⟨j + 1, by omega⟩ (by simp only; omega) ?_
            all_goals simp (decide := true) (maxSteps := 4000000) only [go_sem, Nat.reduceAdd, Nat.reduceSub, Nat.reduceMul, Nat.reduceDiv, Nat.reduceMod, Nat.reduceLT, Nat.reduceLeDiff, Nat.reduceEqDiff, Nat.reduceBEq, Nat.reduceBNe, Nat.reduceGT, Int.reduceAdd, Int.reduceSub, Int.reduceMul, Int.reduceNeg, Int.reduceLT, Int.reduceLE, Int.reduceEq, Int.reduceNe, Int.reduceBEq, Int.reduceBNe, Int.reduceToNat, Int.reduceGT, Int.reduceGE, ↓reduceIte, decide_true, decide_false, eq_self, Nat.mul_one, Nat.zero_mul, Nat.one_mul, Int.le_refl, Nat.le_refl, Int.cast_ofNat_Int, hc2, hs2, Bool.and_true, Bool.and_false, Bool.and_self, Bool.false_and]
          · have hje : j = T.length := by omega
            subst hje
            simp (decide := true) (maxSteps := 4000000) only [go_sem, Nat.reduceAdd, Nat.reduceSub, Nat.reduceMul, Nat.reduceDiv, Nat.reduceMod, Nat.reduceLT, Nat.reduceLeDiff, Nat.reduceEqDiff, Nat.reduceBEq, Nat.reduceBNe, Nat.reduceGT, Int.reduceAdd, Int.reduceSub, Int.reduceMul, Int.reduceNeg, Int.reduceLT, Int.reduceLE, Int.reduceEq, Int.reduceNe, Int.reduceBEq, Int.reduceBNe, Int.reduceToNat, Int.reduceGT, Int.reduceGE, ↓reduceIte, decide_true, decide_false, eq_self, Nat.mul_one, Nat.zero_mul, Nat.one_mul, Int.le_refl, Nat.le_refl, Int.cast_ofNat_Int, hlt2]
            refine hQ2 _ _ ?_
            cases hso : stockOk B T <;> simp (decide := true) (maxSteps := 4000000) only [go_sem, Nat.reduceAdd, Nat.reduceSub, Nat.reduceMul, Nat.reduceDiv, Nat.reduceMod, Nat.reduceLT, Nat.reduceLeDiff, Nat.reduceEqDiff, Nat.reduceBEq, Nat.reduceBNe, Nat.reduceGT, Int.reduceAdd, Int.reduceSub, Int.reduceMul, Int.reduceNeg, Int.reduceLT, Int.reduceLE, Int.reduceEq, Int.reduceNe, Int.reduceBEq, Int.reduceBNe, Int.reduceToNat, Int.reduceGT, Int.reduceGE, ↓reduceIte, decide_true, decide_false, eq_self, Nat.mul_one, Nat.zero_mul, Nat.one_mul, Int.le_refl, Nat.le_refl, Int.cast_ofNat_Int, accT_all, hso]
noncomputable def glCheck : List TV → Option TV
  | [.agg [sB, sT]] => match rowL unBlanks sB, rowL unSpans sT with
    | some B, some T => if B.length ≤ 5864062014806 ∧ T.length ≤ 9000000000000 then some (.int .i64 (if stockOk B T then 0 else 40)) else none
    | _, _ => none
  | _ => none
theorem glCheck_ok : ∀ xs r, glCheck xs = some r → PCalls Try.prog 14 xs r := by
  intro xs r h
  unfold glCheck at h
  split at h
  · split at h
    · rename_i B T hB hT
      split at h
      · rename_i hc; cases h
        exact gCheck_c (rowL_some (un := unBlanks) rfl (@unBlanks_some) hB) (rowL_some (un := unSpans) rfl (@unSpans_some) hT) hc.1 hc.2
      · cases h
    · cases h
  · cases h
attribute [go_sem] glCheck
end Go.Proofs.Ytadkjjnnnkfalaa.Gl

/- Part Gv. -/
namespace Go.Oc.Gl
end Go.Oc.Gl
namespace Go.Proofs.Ytadkjjnnnkfalaa.Gl
end Go.Proofs.Ytadkjjnnnkfalaa.Gl
namespace Go.Oc.Gl
open Go Go.Pm
theorem obOk_iff {n m : Int} {o : Ob} : obOk n m o = true ↔ (0 ≤ o.f ∧ o.f ≤ n - 1) ∧ (0 ≤ o.s ∧ o.s ≤ n - 1) ∧ o.f ≠ o.s ∧ (0 ≤ o.a ∧ o.a ≤ m - 1) ∧ (0 ≤ o.b ∧ o.b ≤ m - 1) ∧ 0 ≤ o.c ∧ o.c ≤ m - 1 := by
  simp only [obOk, inB, Bool.and_eq_true, decide_eq_true_eq, bne_iff_ne, ne_eq]
  constructor
  · rintro ⟨⟨⟨⟨⟨a, b⟩, c⟩, d⟩, e⟩, f⟩; exact ⟨a, b, c, d, e, f⟩
  · rintro ⟨a, b, c, d, e, f⟩; exact ⟨⟨⟨⟨⟨a, b⟩, c⟩, d⟩, e⟩, f⟩
end Go.Oc.Gl
namespace Go.Proofs.Ytadkjjnnnkfalaa.Gl
open Go.RowKit Go.Pm Go.Oc Go.Oc.Gl
set_option maxRecDepth 100000
set_option linter.unusedVariables false
set_option maxHeartbeats 4000000

noncomputable def spV1 : Pm.Spec := spU3.one 14 glCheck
@[go_sem] theorem spV1_p (f : FuncId) (xs : List TV) : spV1.p f xs = Pm.Spec.p (spU3.one 14 glCheck) f xs := rfl
@[go_sem] theorem spV1_h (f : FuncId) (ps : List PV) (hl : List PO) : spV1.h f ps hl = Pm.Spec.h (spU3.one 14 glCheck) f ps hl := rfl
@[go_sem] theorem spV1_y (Y : Pm.YS) (f : FuncId) (ps : List PV) (hl : List PO) : spV1.y Y f ps hl = Pm.Spec.y (spU3.one 14 glCheck) Y f ps hl := rfl
@[go_sem] theorem spV1_fz (f : FuncId) : spV1.fz f = Pm.Spec.fz (spU3.one 14 glCheck) f := rfl
@[go_sem] theorem spV1_fr (f : FuncId) : spV1.fr f = Pm.Spec.fr (spU3.one 14 glCheck) f := rfl
@[go_sem] theorem spV1_yf (f : FuncId) : spV1.yf f = Pm.Spec.yf (spU3.one 14 glCheck) f := rfl
@[go_sem] theorem spV1_mu (t : TypeId) : spV1.mu t = Pm.Spec.mu (spU3.one 14 glCheck) t := rfl
@[go_sem] theorem spV1_nf (t : TypeId) : spV1.nf t = Pm.Spec.nf (spU3.one 14 glCheck) t := rfl
theorem spV1_ok : SpecOk Try.prog spV1 := Spec.one_ok glCheck_ok spU3_ok
theorem gIsOb_c {B : List Blank} {T : List Span} {sB sT : TV} (hB : IsRow Blank.cs sB B) (hT : IsRow Span.cs sT T) (hlB : B.length ≤ 5864062014806) (hlT : T.length ≤ 9000000000000) (o : Ob) : PCalls Try.prog 46 [.agg [sB, sT], o.t] (.bool (obOk B.length T.length o)) := by
  have w0 : IntKind.i64.wrap (-1) = -1 := rfl
  have w1 : IntKind.i64.wrap ((B.length : Int) - 1) = (B.length : Int) - 1 := wrap_in (by omega) (by omega)
  have w2 : IntKind.i64.wrap ((T.length : Int) - 1) = (T.length : Int) - 1 := wrap_in (by omega) (by omega)
  have hob : obOk B.length T.length o = (inB o.f 0 ((B.length : Int) - 1) && inB o.s 0 ((B.length : Int) - 1) && (o.f != o.s) && inB o.a 0 ((T.length : Int) - 1) && inB o.b 0 ((T.length : Int) - 1) && inB o.c 0 ((T.length : Int) - 1)) := rfl
  refine pcalls_by Try.mixes spV1_ok (fn := Try.f46) Try.func46 rfl (by kernel_rfl) (by show 2 ≤ _; decide) ?_
  by_cases hlb : 1 ≤ B.length
  · obtain ⟨fB, rfl⟩ := hB.ne hlb
    cases h1 : inB o.f 0 ((B.length : Int) - 1) with
    | false => rcases hT with ⟨rfl, rfl⟩ | ⟨fT, rfl⟩ <;> simp (decide := true) (maxSteps := 4000000) only [go_sem, Nat.reduceAdd, Nat.reduceSub, Nat.reduceMul, Nat.reduceDiv, Nat.reduceMod, Nat.reduceLT, Nat.reduceLeDiff, Nat.reduceEqDiff, Nat.reduceBEq, Nat.reduceBNe, Nat.reduceGT, Int.reduceAdd, Int.reduceSub, Int.reduceMul, Int.reduceNeg, Int.reduceLT, Int.reduceLE, Int.reduceEq, Int.reduceNe, Int.reduceBEq, Int.reduceBNe, Int.reduceToNat, Int.reduceGT, Int.reduceGE, ↓reduceIte, decide_true, decide_false, eq_self, Nat.mul_one, Nat.zero_mul, Nat.one_mul, Int.le_refl, Nat.le_refl, Int.cast_ofNat_Int, Try.f46, Ob.t, Ob.cs, w1, obOk, h1, Bool.false_and]
    | true =>
      cases h2 : inB o.s 0 ((B.length : Int) - 1) with
      | false => rcases hT with ⟨rfl, rfl⟩ | ⟨fT, rfl⟩ <;> simp (decide := true) (maxSteps := 4000000) only [go_sem, Nat.reduceAdd, Nat.reduceSub, Nat.reduceMul, Nat.reduceDiv, Nat.reduceMod, Nat.reduceLT, Nat.reduceLeDiff, Nat.reduceEqDiff, Nat.reduceBEq, Nat.reduceBNe, Nat.reduceGT, Int.reduceAdd, Int.reduceSub, Int.reduceMul, Int.reduceNeg, Int.reduceLT, Int.reduceLE, Int.reduceEq, Int.reduceNe, Int.reduceBEq, Int.reduceBNe, Int.reduceToNat, Int.reduceGT, Int.reduceGE, ↓reduceIte, decide_true, decide_false, eq_self, Nat.mul_one, Nat.zero_mul, Nat.one_mul, Int.le_refl, Nat.le_refl, Int.cast_ofNat_Int, Try.f46, Ob.t, Ob.cs, w1, obOk, h1, h2, Bool.false_and]
      | true =>
        by_cases h3 : o.f = o.s
        · have h3' : (o.f == o.s) = true := by simpa using h3
          have h3n : (o.f != o.s) = false := by simpa using h3
          rcases hT with ⟨rfl, rfl⟩ | ⟨fT, rfl⟩ <;> simp (decide := true) (maxSteps := 4000000) only [go_sem, Nat.reduceAdd, Nat.reduceSub, Nat.reduceMul, Nat.reduceDiv, Nat.reduceMod, Nat.reduceLT, Nat.reduceLeDiff, Nat.reduceEqDiff, Nat.reduceBEq, Nat.reduceBNe, Nat.reduceGT, Int.reduceAdd, Int.reduceSub, Int.reduceMul, Int.reduceNeg, Int.reduceLT, Int.reduceLE, Int.reduceEq, Int.reduceNe, Int.reduceBEq, Int.reduceBNe, Int.reduceToNat, Int.reduceGT, Int.reduceGE, ↓reduceIte, decide_true, decide_false, eq_self, Nat.mul_one, Nat.zero_mul, Nat.one_mul, Int.le_refl, Nat.le_refl, Int.cast_ofNat_Int, Try.f46, Ob.t, Ob.cs, w1, obOk, h1, h2, h3', h3n, Bool.false_and]
        · have h3' : (o.f == o.s) = false := by simpa using h3
          have h3n : (o.f != o.s) = true := by simpa using h3
          rcases hT with ⟨rfl, rfl⟩ | ⟨fT, rfl⟩
          · have h4 : inB o.a 0 (-1) = false := by unfold inB; simp; omega
            simp (decide := true) (maxSteps := 4000000) only [go_sem, Nat.reduceAdd, Nat.reduceSub, Nat.reduceMul, Nat.reduceDiv, Nat.reduceMod, Nat.reduceLT, Nat.reduceLeDiff, Nat.reduceEqDiff, Nat.reduceBEq, Nat.reduceBNe, Nat.reduceGT, Int.reduceAdd, Int.reduceSub, Int.reduceMul, Int.reduceNeg, Int.reduceLT, Int.reduceLE, Int.reduceEq, Int.reduceNe, Int.reduceBEq, Int.reduceBNe, Int.reduceToNat, Int.reduceGT, Int.reduceGE, ↓reduceIte, decide_true, decide_false, eq_self, Nat.mul_one, Nat.zero_mul, Nat.one_mul, Int.le_refl, Nat.le_refl, Int.cast_ofNat_Int, Try.f46, Ob.t, Ob.cs, w1, h1, h2, h3', List.length_nil]
            refine pwpC_loopU (A := Unit) [2, 35] (fun _ => [(36, .t (.int .i64 0))]) (fun _ => []) (fun _ => 0) () (by decide) (fun _ => by rfl) ?_ fun Q1 hQ1 _ I1 hI1 => ?_
            · simp (decide := true) (maxSteps := 4000000) only [go_sem, Nat.reduceAdd, Nat.reduceSub, Nat.reduceMul, Nat.reduceDiv, Nat.reduceMod, Nat.reduceLT, Nat.reduceLeDiff, Nat.reduceEqDiff, Nat.reduceBEq, Nat.reduceBNe, Nat.reduceGT, Int.reduceAdd, Int.reduceSub, Int.reduceMul, Int.reduceNeg, Int.reduceLT, Int.reduceLE, Int.reduceEq, Int.reduceNe, Int.reduceBEq, Int.reduceBNe, Int.reduceToNat, Int.reduceGT, Int.reduceGE, ↓reduceIte, decide_true, decide_false, eq_self, Nat.mul_one, Nat.zero_mul, Nat.one_mul, Int.le_refl, Nat.le_refl, Int.cast_ofNat_Int]
            · simp (decide := true) (maxSteps := 4000000) only [go_sem, Nat.reduceAdd, Nat.reduceSub, Nat.reduceMul, Nat.reduceDiv, Nat.reduceMod, Nat.reduceLT, Nat.reduceLeDiff, Nat.reduceEqDiff, Nat.reduceBEq, Nat.reduceBNe, Nat.reduceGT, Int.reduceAdd, Int.reduceSub, Int.reduceMul, Int.reduceNeg, Int.reduceLT, Int.reduceLE, Int.reduceEq, Int.reduceNe, Int.reduceBEq, Int.reduceBNe, Int.reduceToNat, Int.reduceGT, Int.reduceGE, ↓reduceIte, decide_true, decide_false, eq_self, Nat.mul_one, Nat.zero_mul, Nat.one_mul, Int.le_refl, Nat.le_refl, Int.cast_ofNat_Int, w0, h4, List.length_nil]
              refine hQ1 _ _ ?_
              simp (decide := true) (maxSteps := 4000000) only [go_sem, Nat.reduceAdd, Nat.reduceSub, Nat.reduceMul, Nat.reduceDiv, Nat.reduceMod, Nat.reduceLT, Nat.reduceLeDiff, Nat.reduceEqDiff, Nat.reduceBEq, Nat.reduceBNe, Nat.reduceGT, Int.reduceAdd, Int.reduceSub, Int.reduceMul, Int.reduceNeg, Int.reduceLT, Int.reduceLE, Int.reduceEq, Int.reduceNe, Int.reduceBEq, Int.reduceBNe, Int.reduceToNat, Int.reduceGT, Int.reduceGE, ↓reduceIte, decide_true, decide_false, eq_self, Nat.mul_one, Nat.zero_mul, Nat.one_mul, Int.le_refl, Nat.le_refl, Int.cast_ofNat_Int, obOk, h1, h2, h3n, h4, List.length_nil, Bool.false_and]
          · simp (decide := true) (maxSteps := 4000000) only [go_sem, Nat.reduceAdd, Nat.reduceSub, Nat.reduceMul, Nat.reduceDiv, Nat.reduceMod, Nat.reduceLT, Nat.reduceLeDiff, Nat.reduceEqDiff, Nat.reduceBEq, Nat.reduceBNe, Nat.reduceGT, Int.reduceAdd, Int.reduceSub, Int.reduceMul, Int.reduceNeg, Int.reduceLT, Int.reduceLE, Int.reduceEq, Int.reduceNe, Int.reduceBEq, Int.reduceBNe, Int.reduceToNat, Int.reduceGT, Int.reduceGE, ↓reduceIte, decide_true, decide_false, eq_self, Nat.mul_one, Nat.zero_mul, Nat.one_mul, Int.le_refl, Nat.le_refl, Int.cast_ofNat_Int, Try.f46, Ob.t, Ob.cs, w1, h1, h2, h3']
            refine pwpC_loopU (A := { k : Nat // k ≤ 3 ∧ (1 ≤ k → inB o.a 0 ((T.length : Int) - 1) = true) ∧ (2 ≤ k → inB o.b 0 ((T.length : Int) - 1) = true) ∧ (3 ≤ k → inB o.c 0 ((T.length : Int) - 1) = true) }) [2, 35] (fun k => [(36, .t (.int .i64 k.1))]) (fun _ => []) (fun k => 3 - k.1) ⟨0, by omega, by omega, by omega, by omega⟩ (by decide) (fun _ => by rfl) ?_ fun Q1 hQ1 ⟨k, hk, ka, kb, kc⟩ I1 hI1 => ?_
            · simp (decide := true) (maxSteps := 4000000) only [go_sem, Nat.reduceAdd, Nat.reduceSub, Nat.reduceMul, Nat.reduceDiv, Nat.reduceMod, Nat.reduceLT, Nat.reduceLeDiff, Nat.reduceEqDiff, Nat.reduceBEq, Nat.reduceBNe, Nat.reduceGT, Int.reduceAdd, Int.reduceSub, Int.reduceMul, Int.reduceNeg, Int.reduceLT, Int.reduceLE, Int.reduceEq, Int.reduceNe, Int.reduceBEq, Int.reduceBNe, Int.reduceToNat, Int.reduceGT, Int.reduceGE, ↓reduceIte, decide_true, decide_false, eq_self, Nat.mul_one, Nat.zero_mul, Nat.one_mul, Int.le_refl, Nat.le_refl, Int.cast_ofNat_Int]
            · rcases (show k = 0 ∨ k = 1 ∨ k = 2 ∨ k = 3 by omega) with rfl | rfl | rfl | rfl
              · rcases (Bool.eq_false_or_eq_true (inB o.a 0 ((T.length : Int) - 1))).symm with h4 | h4
                · skip
                  simp (decide := true) (maxSteps := 4000000) only [go_sem, Nat.reduceAdd, Nat.reduceSub, Nat.reduceMul, Nat.reduceDiv, Nat.reduceMod, Nat.reduceLT, Nat.reduceLeDiff, Nat.reduceEqDiff, Nat.reduceBEq, Nat.reduceBNe, Nat.reduceGT, Int.reduceAdd, Int.reduceSub, Int.reduceMul, Int.reduceNeg, Int.reduceLT, Int.reduceLE, Int.reduceEq, Int.reduceNe, Int.reduceBEq, Int.reduceBNe, Int.reduceToNat, Int.reduceGT, Int.reduceGE, ↓reduceIte, decide_true, decide_false, eq_self, Nat.mul_one, Nat.zero_mul, Nat.one_mul, Int.le_refl, Nat.le_refl, Int.cast_ofNat_Int, w2, h4]
                  refine hQ1 _ _ ?_
                  simp (decide := true) (maxSteps := 4000000) only [go_sem, Nat.reduceAdd, Nat.reduceSub, Nat.reduceMul, Nat.reduceDiv, Nat.reduceMod, Nat.reduceLT, Nat.reduceLeDiff, Nat.reduceEqDiff, Nat.reduceBEq, Nat.reduceBNe, Nat.reduceGT, Int.reduceAdd, Int.reduceSub, Int.reduceMul, Int.reduceNeg, Int.reduceLT, Int.reduceLE, Int.reduceEq, Int.reduceNe, Int.reduceBEq, Int.reduceBNe, Int.reduceToNat, Int.reduceGT, Int.reduceGE, ↓reduceIte, decide_true, decide_false, eq_self, Nat.mul_one, Nat.zero_mul, Nat.one_mul, Int.le_refl, Nat.le_refl, Int.cast_ofNat_Int, obOk, h1, h2, h3n, h4, Bool.false_and, Bool.and_false]
                · simp (decide := true) (maxSteps := 4000000) only [go_sem, Nat.reduceAdd, Nat.reduceSub, Nat.reduceMul, Nat.reduceDiv, Nat.reduceMod, Nat.reduceLT, Nat.reduceLeDiff, Nat.reduceEqDiff, Nat.reduceBEq, Nat.reduceBNe, Nat.reduceGT, Int.reduceAdd, Int.reduceSub, Int.reduceMul, Int.reduceNeg, Int.reduceLT, Int.reduceLE, Int.reduceEq, Int.reduceNe, Int.reduceBEq, Int.reduceBNe, Int.reduceToNat, Int.reduceGT, Int.reduceGE, ↓reduceIte, decide_true, decide_false, eq_self, Nat.mul_one, Nat.zero_mul, Nat.one_mul, Int.le_refl, Nat.le_refl, Int.cast_ofNat_Int, w2, h4]
                  refine hI1 _ ⟨1, by omega, fun _ => h4, by omega, by omega⟩ (by simp) ?_
                  simp (decide := true) (maxSteps := 4000000) only [go_sem, Nat.reduceAdd, Nat.reduceSub, Nat.reduceMul, Nat.reduceDiv, Nat.reduceMod, Nat.reduceLT, Nat.reduceLeDiff, Nat.reduceEqDiff, Nat.reduceBEq, Nat.reduceBNe, Nat.reduceGT, Int.reduceAdd, Int.reduceSub, Int.reduceMul, Int.reduceNeg, Int.reduceLT, Int.reduceLE, Int.reduceEq, Int.reduceNe, Int.reduceBEq, Int.reduceBNe, Int.reduceToNat, Int.reduceGT, Int.reduceGE, ↓reduceIte, decide_true, decide_false, eq_self, Nat.mul_one, Nat.zero_mul, Nat.one_mul, Int.le_refl, Nat.le_refl, Int.cast_ofNat_Int]
              · rcases (Bool.eq_false_or_eq_true (inB o.b 0 ((T.length : Int) - 1))).symm with h4 | h4
                · skip
                  simp (decide := true) (maxSteps := 4000000) only [go_sem, Nat.reduceAdd, Nat.reduceSub, Nat.reduceMul, Nat.reduceDiv, Nat.reduceMod, Nat.reduceLT, Nat.reduceLeDiff, Nat.reduceEqDiff, Nat.reduceBEq, Nat.reduceBNe, Nat.reduceGT, Int.reduceAdd, Int.reduceSub, Int.reduceMul, Int.reduceNeg, Int.reduceLT, Int.reduceLE, Int.reduceEq, Int.reduceNe, Int.reduceBEq, Int.reduceBNe, Int.reduceToNat, Int.reduceGT, Int.reduceGE, ↓reduceIte, decide_true, decide_false, eq_self, Nat.mul_one, Nat.zero_mul, Nat.one_mul, Int.le_refl, Nat.le_refl, Int.cast_ofNat_Int, w2, h4]
                  refine hQ1 _ _ ?_
                  simp (decide := true) (maxSteps := 4000000) only [go_sem, Nat.reduceAdd, Nat.reduceSub, Nat.reduceMul, Nat.reduceDiv, Nat.reduceMod, Nat.reduceLT, Nat.reduceLeDiff, Nat.reduceEqDiff, Nat.reduceBEq, Nat.reduceBNe, Nat.reduceGT, Int.reduceAdd, Int.reduceSub, Int.reduceMul, Int.reduceNeg, Int.reduceLT, Int.reduceLE, Int.reduceEq, Int.reduceNe, Int.reduceBEq, Int.reduceBNe, Int.reduceToNat, Int.reduceGT, Int.reduceGE, ↓reduceIte, decide_true, decide_false, eq_self, Nat.mul_one, Nat.zero_mul, Nat.one_mul, Int.le_refl, Nat.le_refl, Int.cast_ofNat_Int, obOk, h1, h2, h3n, ka (by omega), h4, Bool.false_and, Bool.and_false]
                · simp (decide := true) (maxSteps := 4000000) only [go_sem, Nat.reduceAdd, Nat.reduceSub, Nat.reduceMul, Nat.reduceDiv, Nat.reduceMod, Nat.reduceLT, Nat.reduceLeDiff, Nat.reduceEqDiff, Nat.reduceBEq, Nat.reduceBNe, Nat.reduceGT, Int.reduceAdd, Int.reduceSub, Int.reduceMul, Int.reduceNeg, Int.reduceLT, Int.reduceLE, Int.reduceEq, Int.reduceNe, Int.reduceBEq, Int.reduceBNe, Int.reduceToNat, Int.reduceGT, Int.reduceGE, ↓reduceIte, decide_true, decide_false, eq_self, Nat.mul_one, Nat.zero_mul, Nat.one_mul, Int.le_refl, Nat.le_refl, Int.cast_ofNat_Int, w2, h4]
                  refine hI1 _ ⟨2, by omega, fun _ => ka (by omega), fun _ => h4, by omega⟩ (by simp) ?_
                  simp (decide := true) (maxSteps := 4000000) only [go_sem, Nat.reduceAdd, Nat.reduceSub, Nat.reduceMul, Nat.reduceDiv, Nat.reduceMod, Nat.reduceLT, Nat.reduceLeDiff, Nat.reduceEqDiff, Nat.reduceBEq, Nat.reduceBNe, Nat.reduceGT, Int.reduceAdd, Int.reduceSub, Int.reduceMul, Int.reduceNeg, Int.reduceLT, Int.reduceLE, Int.reduceEq, Int.reduceNe, Int.reduceBEq, Int.reduceBNe, Int.reduceToNat, Int.reduceGT, Int.reduceGE, ↓reduceIte, decide_true, decide_false, eq_self, Nat.mul_one, Nat.zero_mul, Nat.one_mul, Int.le_refl, Nat.le_refl, Int.cast_ofNat_Int]
              · rcases (Bool.eq_false_or_eq_true (inB o.c 0 ((T.length : Int) - 1))).symm with h4 | h4
                · skip
                  simp (decide := true) (maxSteps := 4000000) only [go_sem, Nat.reduceAdd, Nat.reduceSub, Nat.reduceMul, Nat.reduceDiv, Nat.reduceMod, Nat.reduceLT, Nat.reduceLeDiff, Nat.reduceEqDiff, Nat.reduceBEq, Nat.reduceBNe, Nat.reduceGT, Int.reduceAdd, Int.reduceSub, Int.reduceMul, Int.reduceNeg, Int.reduceLT, Int.reduceLE, Int.reduceEq, Int.reduceNe, Int.reduceBEq, Int.reduceBNe, Int.reduceToNat, Int.reduceGT, Int.reduceGE, ↓reduceIte, decide_true, decide_false, eq_self, Nat.mul_one, Nat.zero_mul, Nat.one_mul, Int.le_refl, Nat.le_refl, Int.cast_ofNat_Int, w2, h4]
                  refine hQ1 _ _ ?_
                  simp (decide := true) (maxSteps := 4000000) only [go_sem, Nat.reduceAdd, Nat.reduceSub, Nat.reduceMul, Nat.reduceDiv, Nat.reduceMod, Nat.reduceLT, Nat.reduceLeDiff, Nat.reduceEqDiff, Nat.reduceBEq, Nat.reduceBNe, Nat.reduceGT, Int.reduceAdd, Int.reduceSub, Int.reduceMul, Int.reduceNeg, Int.reduceLT, Int.reduceLE, Int.reduceEq, Int.reduceNe, Int.reduceBEq, Int.reduceBNe, Int.reduceToNat, Int.reduceGT, Int.reduceGE, ↓reduceIte, decide_true, decide_false, eq_self, Nat.mul_one, Nat.zero_mul, Nat.one_mul, Int.le_refl, Nat.le_refl, Int.cast_ofNat_Int, obOk, h1, h2, h3n, ka (by omega), kb (by omega), h4, Bool.false_and, Bool.and_false]
                · simp (decide := true) (maxSteps := 4000000) only [go_sem, Nat.reduceAdd, Nat.reduceSub, Nat.reduceMul, Nat.reduceDiv, Nat.reduceMod, Nat.reduceLT, Nat.reduceLeDiff, Nat.reduceEqDiff, Nat.reduceBEq, Nat.reduceBNe, Nat.reduceGT, Int.reduceAdd, Int.reduceSub, Int.reduceMul, Int.reduceNeg, Int.reduceLT, Int.reduceLE, Int.reduceEq, Int.reduceNe, Int.reduceBEq, Int.reduceBNe, Int.reduceToNat, Int.reduceGT, Int.reduceGE, ↓reduceIte, decide_true, decide_false, eq_self, Nat.mul_one, Nat.zero_mul, Nat.one_mul, Int.le_refl, Nat.le_refl, Int.cast_ofNat_Int, w2, h4]
                  refine hI1 _ ⟨3, by omega, fun _ => ka (by omega), fun _ => kb (by omega), fun _ => h4⟩ (by simp) ?_
                  simp (decide := true) (maxSteps := 4000000) only [go_sem, Nat.reduceAdd, Nat.reduceSub, Nat.reduceMul, Nat.reduceDiv, Nat.reduceMod, Nat.reduceLT, Nat.reduceLeDiff, Nat.reduceEqDiff, Nat.reduceBEq, Nat.reduceBNe, Nat.reduceGT, Int.reduceAdd, Int.reduceSub, Int.reduceMul, Int.reduceNeg, Int.reduceLT, Int.reduceLE, Int.reduceEq, Int.reduceNe, Int.reduceBEq, Int.reduceBNe, Int.reduceToNat, Int.reduceGT, Int.reduceGE, ↓reduceIte, decide_true, decide_false, eq_self, Nat.mul_one, Nat.zero_mul, Nat.one_mul, Int.le_refl, Nat.le_refl, Int.cast_ofNat_Int]
              · simp (decide := true) (maxSteps := 4000000) only [go_sem, Nat.reduceAdd, Nat.reduceSub, Nat.reduceMul, Nat.reduceDiv, Nat.reduceMod, Nat.reduceLT, Nat.reduceLeDiff, Nat.reduceEqDiff, Nat.reduceBEq, Nat.reduceBNe, Nat.reduceGT, Int.reduceAdd, Int.reduceSub, Int.reduceMul, Int.reduceNeg, Int.reduceLT, Int.reduceLE, Int.reduceEq, Int.reduceNe, Int.reduceBEq, Int.reduceBNe, Int.reduceToNat, Int.reduceGT, Int.reduceGE, ↓reduceIte, decide_true, decide_false, eq_self, Nat.mul_one, Nat.zero_mul, Nat.one_mul, Int.le_refl, Nat.le_refl, Int.cast_ofNat_Int]
                refine hQ1 _ _ ?_
                simp (decide := true) (maxSteps := 4000000) only [go_sem, Nat.reduceAdd, Nat.reduceSub, Nat.reduceMul, Nat.reduceDiv, Nat.reduceMod, Nat.reduceLT, Nat.reduceLeDiff, Nat.reduceEqDiff, Nat.reduceBEq, Nat.reduceBNe, Nat.reduceGT, Int.reduceAdd, Int.reduceSub, Int.reduceMul, Int.reduceNeg, Int.reduceLT, Int.reduceLE, Int.reduceEq, Int.reduceNe, Int.reduceBEq, Int.reduceBNe, Int.reduceToNat, Int.reduceGT, Int.reduceGE, ↓reduceIte, decide_true, decide_false, eq_self, Nat.mul_one, Nat.zero_mul, Nat.one_mul, Int.le_refl, Nat.le_refl, Int.cast_ofNat_Int, obOk, h1, h2, h3n, ka (by omega), kb (by omega), kc (by omega)]
  · have hBn : B = [] := List.length_eq_zero_iff.1 (by omega)
    have h1 : inB o.f 0 (-1) = false := by unfold inB; simp; omega
    subst hBn
    rcases hB with ⟨rfl, _⟩ | ⟨fB, rfl⟩ <;> rcases hT with ⟨rfl, rfl⟩ | ⟨fT, rfl⟩ <;> simp (decide := true) (maxSteps := 4000000) only [go_sem, Nat.reduceAdd, Nat.reduceSub, Nat.reduceMul, Nat.reduceDiv, Nat.reduceMod, Nat.reduceLT, Nat.reduceLeDiff, Nat.reduceEqDiff, Nat.reduceBEq, Nat.reduceBNe, Nat.reduceGT, Int.reduceAdd, Int.reduceSub, Int.reduceMul, Int.reduceNeg, Int.reduceLT, Int.reduceLE, Int.reduceEq, Int.reduceNe, Int.reduceBEq, Int.reduceBNe, Int.reduceToNat, Int.reduceGT, Int.reduceGE, ↓reduceIte, decide_true, decide_false, eq_self, Nat.mul_one, Nat.zero_mul, Nat.one_mul, Int.le_refl, Nat.le_refl, Int.cast_ofNat_Int, Try.f46, Ob.t, Ob.cs, w0, obOk, h1, List.length_nil, Bool.false_and]
noncomputable def glIsOb : List TV → Option TV
  | [.agg [sB, sT], .agg [.int .i64 f, .int .i64 s, .int .i64 a, .int .i64 b, .int .i64 c]] => match rowL unBlanks sB, rowL unSpans sT with
    | some B, some T => if B.length ≤ 5864062014806 ∧ T.length ≤ 9000000000000 then some (.bool (obOk B.length T.length ⟨f, s, a, b, c⟩)) else none
    | _, _ => none
  | _ => none
theorem glIsOb_ok : ∀ xs r, glIsOb xs = some r → PCalls Try.prog 46 xs r := by
  intro xs r h
  unfold glIsOb at h
  split at h
  · split at h
    · rename_i B T hB hT
      split at h
      · rename_i hc; cases h
        exact gIsOb_c (rowL_some (un := unBlanks) rfl (@unBlanks_some) hB) (rowL_some (un := unSpans) rfl (@unSpans_some) hT) hc.1 hc.2 ⟨_, _, _, _, _⟩
      · cases h
    · cases h
  · cases h
attribute [go_sem] glIsOb
theorem at_bit : ∀ k : Nat, k < 32 → ∀ b : Nat, b < 5 → (IntKind.i64.wrap ((BitVec.ofInt 64 (Int.fdiv (k : Int) (2 ^ (min b 64))) &&& BitVec.ofInt 64 1).toNat) == 1) = k.testBit b := by decide +kernel
theorem gAt_c (k b : Nat) (hk : k < 32) (hb : b < 5) : PCalls Try.prog 91 [.int .i64 b, .cptr [.int .i64 k]] (.bool (k.testBit b)) := by
  have hb0 : ¬ (b : Int) < 0 := by omega
  have e := at_bit k hk b hb
  refine pcalls_by Try.mixes noSpec_ok (fn := Try.f91) Try.func91 rfl (by kernel_rfl) (by show 2 ≤ _; decide) ?_
  simp (decide := true) (maxSteps := 4000000) only [go_sem, Nat.reduceAdd, Nat.reduceSub, Nat.reduceMul, Nat.reduceDiv, Nat.reduceMod, Nat.reduceLT, Nat.reduceLeDiff, Nat.reduceEqDiff, Nat.reduceBEq, Nat.reduceBNe, Nat.reduceGT, Int.reduceAdd, Int.reduceSub, Int.reduceMul, Int.reduceNeg, Int.reduceLT, Int.reduceLE, Int.reduceEq, Int.reduceNe, Int.reduceBEq, Int.reduceBNe, Int.reduceToNat, Int.reduceGT, Int.reduceGE, ↓reduceIte, decide_true, decide_false, eq_self, Nat.mul_one, Nat.zero_mul, Nat.one_mul, Int.le_refl, Nat.le_refl, Int.cast_ofNat_Int, Try.f91, hb0, IntKind.bits]
  exact e
def glAt : List TV → Option TV
  | [.int .i64 b, .cptr [.int .i64 k]] => if (0 ≤ k ∧ k < 32) ∧ 0 ≤ b ∧ b < 5 then some (.bool (k.toNat.testBit b.toNat)) else none
  | _ => none
theorem glAt_ok : ∀ xs r, glAt xs = some r → PCalls Try.prog 91 xs r := by
  intro xs r h
  unfold glAt at h
  split at h
  · split at h
    · rename_i b k hc; cases h
      have := gAt_c k.toNat b.toNat (by omega) (by omega)
      rwa [Int.toNat_of_nonneg hc.1.1, Int.toNat_of_nonneg hc.2.1] at this
    · cases h
  · cases h
attribute [go_sem] glAt
theorem gEnds_c (a : Int) (l : List Int) (full : Bool) (hl : (l.length : Int) ≤ 1000000) : PCalls Try.prog 93 [.int .i64 a, .sl (ints l) l.length full] (.tup [.int .i64 (l.foldl min a), .int .i64 (l.foldl max a)]) := by
  refine pcalls_by Try.mixes noSpec_ok (fn := Try.f93) Try.func93 rfl (by kernel_rfl) (by show 2 ≤ _; decide) ?_
  simp (decide := true) (maxSteps := 4000000) only [go_sem, Nat.reduceAdd, Nat.reduceSub, Nat.reduceMul, Nat.reduceDiv, Nat.reduceMod, Nat.reduceLT, Nat.reduceLeDiff, Nat.reduceEqDiff, Nat.reduceBEq, Nat.reduceBNe, Nat.reduceGT, Int.reduceAdd, Int.reduceSub, Int.reduceMul, Int.reduceNeg, Int.reduceLT, Int.reduceLE, Int.reduceEq, Int.reduceNe, Int.reduceBEq, Int.reduceBNe, Int.reduceToNat, Int.reduceGT, Int.reduceGE, ↓reduceIte, decide_true, decide_false, eq_self, Nat.mul_one, Nat.zero_mul, Nat.one_mul, Int.le_refl, Nat.le_refl, Int.cast_ofNat_Int, Try.f93]
  refine pwpC_loopU (A := { k : Nat // k ≤ l.length }) [10, 11] (fun k => [(12, .t (.int .i64 k.1)), (4, .t (.int .i64 ((l.take k.1).foldl min a))), (5, .t (.int .i64 ((l.take k.1).foldl max a)))]) (fun _ => []) (fun k => l.length - k.1) ⟨0, by omega⟩ (by decide) (fun _ => by rfl) ?_ fun Q1 hQ1 ⟨k, hk⟩ I1 hI1 => ?_
  · simp (decide := true) (maxSteps := 4000000) only [go_sem, Nat.reduceAdd, Nat.reduceSub, Nat.reduceMul, Nat.reduceDiv, Nat.reduceMod, Nat.reduceLT, Nat.reduceLeDiff, Nat.reduceEqDiff, Nat.reduceBEq, Nat.reduceBNe, Nat.reduceGT, Int.reduceAdd, Int.reduceSub, Int.reduceMul, Int.reduceNeg, Int.reduceLT, Int.reduceLE, Int.reduceEq, Int.reduceNe, Int.reduceBEq, Int.reduceBNe, Int.reduceToNat, Int.reduceGT, Int.reduceGE, ↓reduceIte, decide_true, decide_false, eq_self, Nat.mul_one, Nat.zero_mul, Nat.one_mul, Int.le_refl, Nat.le_refl, Int.cast_ofNat_Int, List.take_zero, List.foldl_nil]
  · by_cases hlt : (k : Int) < l.length
    · obtain ⟨x, hx⟩ := get_lt hlt
      have hd := ints_at hx
      rw [Nat.mul_one] at hd
      have hk1 : IntKind.i64.wrap (k + 1) = ((k + 1 : Nat) : Int) := by rw [wrap_in (by omega) (by omega)]; omega
      simp (decide := true) (maxSteps := 4000000) only [go_sem, Nat.reduceAdd, Nat.reduceSub, Nat.reduceMul, Nat.reduceDiv, Nat.reduceMod, Nat.reduceLT, Nat.reduceLeDiff, Nat.reduceEqDiff, Nat.reduceBEq, Nat.reduceBNe, Nat.reduceGT, Int.reduceAdd, Int.reduceSub, Int.reduceMul, Int.reduceNeg, Int.reduceLT, Int.reduceLE, Int.reduceEq, Int.reduceNe, Int.reduceBEq, Int.reduceBNe, Int.reduceToNat, Int.reduceGT, Int.reduceGE, ↓reduceIte, decide_true, decide_false, eq_self, Nat.mul_one, Nat.zero_mul, Nat.one_mul, Int.le_refl, Nat.le_refl, Int.cast_ofNat_Int, hlt, hd]
      refine hI1 _ ⟨k + 1, by omega⟩ (by simp only; omega) ?_
      simp (decide := true) (maxSteps := 4000000) only [go_sem, Nat.reduceAdd, Nat.reduceSub, Nat.reduceMul, Nat.reduceDiv, Nat.reduceMod, Nat.reduceLT, Nat.reduceLeDiff, Nat.reduceEqDiff, Nat.reduceBEq, Nat.reduceBNe, Nat.reduceGT, Int.reduceAdd, Int.reduceSub, Int.reduceMul, Int.reduceNeg, Int.reduceLT, Int.reduceLE, Int.reduceEq, Int.reduceNe, Int.reduceBEq, Int.reduceBNe, Int.reduceToNat, Int.reduceGT, Int.reduceGE, ↓reduceIte, decide_true, decide_false, eq_self, Nat.mul_one, Nat.zero_mul, Nat.one_mul, Int.le_refl, Nat.le_refl, Int.cast_ofNat_Int, hk1, take_snoc hx, List.foldl_append, List.foldl_cons, List.foldl_nil]
    · have hkl : k = l.length := by omega
      subst hkl
      simp (decide := true) (maxSteps := 4000000) only [go_sem, Nat.reduceAdd, Nat.reduceSub, Nat.reduceMul, Nat.reduceDiv, Nat.reduceMod, Nat.reduceLT, Nat.reduceLeDiff, Nat.reduceEqDiff, Nat.reduceBEq, Nat.reduceBNe, Nat.reduceGT, Int.reduceAdd, Int.reduceSub, Int.reduceMul, Int.reduceNeg, Int.reduceLT, Int.reduceLE, Int.reduceEq, Int.reduceNe, Int.reduceBEq, Int.reduceBNe, Int.reduceToNat, Int.reduceGT, Int.reduceGE, ↓reduceIte, decide_true, decide_false, eq_self, Nat.mul_one, Nat.zero_mul, Nat.one_mul, Int.le_refl, Nat.le_refl, Int.cast_ofNat_Int, hlt]
      refine hQ1 _ _ ?_
      simp (decide := true) (maxSteps := 4000000) only [go_sem, Nat.reduceAdd, Nat.reduceSub, Nat.reduceMul, Nat.reduceDiv, Nat.reduceMod, Nat.reduceLT, Nat.reduceLeDiff, Nat.reduceEqDiff, Nat.reduceBEq, Nat.reduceBNe, Nat.reduceGT, Int.reduceAdd, Int.reduceSub, Int.reduceMul, Int.reduceNeg, Int.reduceLT, Int.reduceLE, Int.reduceEq, Int.reduceNe, Int.reduceBEq, Int.reduceBNe, Int.reduceToNat, Int.reduceGT, Int.reduceGE, ↓reduceIte, decide_true, decide_false, eq_self, Nat.mul_one, Nat.zero_mul, Nat.one_mul, Int.le_refl, Nat.le_refl, Int.cast_ofNat_Int, List.take_length]
noncomputable def glEnds : List TV → Option TV
  | [.int .i64 a, .sl cs n full] => match unI cs with
    | some l => if n = l.length ∧ l.length ≤ 1000000 then some (.tup [.int .i64 (l.foldl min a), .int .i64 (l.foldl max a)]) else none
    | none => none
  | _ => none
theorem glEnds_ok : ∀ xs r, glEnds xs = some r → PCalls Try.prog 93 xs r := by
  intro xs r h
  unfold glEnds at h
  split at h
  · split at h
    · rename_i l hl
      split at h
      · rename_i hc; cases h
        have e1 := unI_some hl
        rw [ic_ints] at e1
        obtain ⟨rfl, h1⟩ := hc
        rw [e1]
        exact gEnds_c _ _ _ (by omega)
      · cases h
    · cases h
  · cases h
attribute [go_sem] glEnds
noncomputable def spV2 : Pm.Spec := ((spV1.one 46 glIsOb).one 91 glAt).one 93 glEnds
@[go_sem] theorem spV2_p (f : FuncId) (xs : List TV) : spV2.p f xs = Pm.Spec.p (((spV1.one 46 glIsOb).one 91 glAt).one 93 glEnds) f xs := rfl
@[go_sem] theorem spV2_h (f : FuncId) (ps : List PV) (hl : List PO) : spV2.h f ps hl = Pm.Spec.h (((spV1.one 46 glIsOb).one 91 glAt).one 93 glEnds) f ps hl := rfl
@[go_sem] theorem spV2_y (Y : Pm.YS) (f : FuncId) (ps : List PV) (hl : List PO) : spV2.y Y f ps hl = Pm.Spec.y (((spV1.one 46 glIsOb).one 91 glAt).one 93 glEnds) Y f ps hl := rfl
@[go_sem] theorem spV2_fz (f : FuncId) : spV2.fz f = Pm.Spec.fz (((spV1.one 46 glIsOb).one 91 glAt).one 93 glEnds) f := rfl
@[go_sem] theorem spV2_fr (f : FuncId) : spV2.fr f = Pm.Spec.fr (((spV1.one 46 glIsOb).one 91 glAt).one 93 glEnds) f := rfl
@[go_sem] theorem spV2_yf (f : FuncId) : spV2.yf f = Pm.Spec.yf (((spV1.one 46 glIsOb).one 91 glAt).one 93 glEnds) f := rfl
@[go_sem] theorem spV2_mu (t : TypeId) : spV2.mu t = Pm.Spec.mu (((spV1.one 46 glIsOb).one 91 glAt).one 93 glEnds) t := rfl
@[go_sem] theorem spV2_nf (t : TypeId) : spV2.nf t = Pm.Spec.nf (((spV1.one 46 glIsOb).one 91 glAt).one 93 glEnds) t := rfl
theorem spV2_ok : SpecOk Try.prog spV2 := Spec.one_ok glEnds_ok (Spec.one_ok glAt_ok (Spec.one_ok glIsOb_ok spV1_ok))
end Go.Proofs.Ytadkjjnnnkfalaa.Gl

/- Part Gw. -/
namespace Go.Oc.Gl
end Go.Oc.Gl
namespace Go.Proofs.Ytadkjjnnnkfalaa.Gl
end Go.Proofs.Ytadkjjnnnkfalaa.Gl
namespace Go.Oc.Gl
open Go Go.Pm
theorem blankAt_eq {B : List Blank} {i : Nat} {x : Blank} (h : B[i]? = some x) : blankAt B (i : Int) = x := by
  unfold blankAt
  rw [Int.toNat_natCast, List.getD_eq_getElem?_getD, h]; rfl
theorem toolAt_eq {T : List Span} {i : Nat} {x : Span} (h : T[i]? = some x) : toolAt T (i : Int) = x := by
  unfold toolAt
  rw [Int.toNat_natCast, List.getD_eq_getElem?_getD, h]; rfl
theorem mulB2 {a b A B : Int} (ha : -A ≤ a ∧ a ≤ A) (hb : -B ≤ b ∧ b ≤ B) : -(A * B) ≤ a * b ∧ a * b ≤ A * B := by
  have hA : 0 ≤ A := by omega
  have hB : 0 ≤ B := by omega
  have h1 : 0 ≤ (A - a) * (B + b) := Int.mul_nonneg (by omega) (by omega)
  have h2 : 0 ≤ (A + a) * (B - b) := Int.mul_nonneg (by omega) (by omega)
  have h3 : 0 ≤ (A - a) * (B - b) := Int.mul_nonneg (by omega) (by omega)
  have h4 : 0 ≤ (A + a) * (B + b) := Int.mul_nonneg (by omega) (by omega)
  rw [Int.sub_mul, Int.mul_add, Int.mul_add] at h1
  rw [Int.add_mul, Int.mul_sub, Int.mul_sub] at h2
  rw [Int.sub_mul, Int.mul_sub, Int.mul_sub] at h3
  rw [Int.add_mul, Int.mul_add, Int.mul_add] at h4
  omega
/-- How what both lenses do is reckoned. -/
theorem pw_wrap {n1 n2 f m b : Int} (h1 : 0 ≤ n1 ∧ n1 ≤ 100000) (h2 : 0 ≤ n2 ∧ n2 ≤ 100000) (hf : -1000 ≤ f ∧ f ≤ 1000) (hm : -1000 ≤ m ∧ m ≤ 1000) (hb : -1000 ≤ b ∧ b ≤ 1000) :
    IntKind.i64.wrap (IntKind.i64.wrap (n1 * IntKind.i64.wrap (f - m)) + IntKind.i64.wrap (n2 * IntKind.i64.wrap (m - b))) = pw n1 n2 f m b ∧ -400000000 ≤ pw n1 n2 f m b ∧ pw n1 n2 f m b ≤ 400000000 := by
  have a := mulB2 (a := n1) (b := f - m) (A := 100000) (B := 2000) (by omega) (by omega)
  have c := mulB2 (a := n2) (b := m - b) (A := 100000) (B := 2000) (by omega) (by omega)
  rw [wrap_in (n := f - m) (by omega) (by omega), wrap_in (n := m - b) (by omega) (by omega), wrap_in (n := n1 * (f - m)) (by omega) (by omega), wrap_in (n := n2 * (m - b)) (by omega) (by omega), wrap_in (n := n1 * (f - m) + n2 * (m - b)) (by omega) (by omega)]
  unfold pw
  refine ⟨rfl, by omega, by omega⟩
theorem corners_succ (s1 s2 t1 t2 t3 : Span) (o : Ob) (k : Nat) : corners s1 s2 t1 t2 t3 o (k + 1) = corners s1 s2 t1 t2 t3 o k ++ [cornV s1 s2 t1 t2 t3 o k] := by
  unfold corners; rw [List.range_succ, List.map_append]; rfl
theorem corners_len (s1 s2 t1 t2 t3 : Span) (o : Ob) (k : Nat) : (corners s1 s2 t1 t2 t3 o k).length = k := by simp [corners]
theorem ints_snoc' (l : List Int) (x : Int) : ints (l ++ [x]) = ints l ++ [.int .i64 x] := by simp [ints]
end Go.Oc.Gl
namespace Go.Proofs.Ytadkjjnnnkfalaa.Gl
open Go.RowKit Go.Pm Go.Oc Go.Oc.Gl
set_option maxRecDepth 100000
set_option linter.unusedVariables false
set_option maxHeartbeats 4000000

noncomputable def spW1 : Pm.Spec := { spV2 with fz := fun _ => true }
theorem spW1_ok : SpecOk Try.prog spW1 := ⟨spV2_ok.1, spV2_ok.2⟩
@[go_sem] theorem spW1_p (f : FuncId) (xs : List TV) : spW1.p f xs = spV2.p f xs := rfl
@[go_sem] theorem spW1_h (f : FuncId) (ps : List PV) (hl : List PO) : spW1.h f ps hl = spV2.h f ps hl := rfl
@[go_sem] theorem spW1_fz (f : FuncId) : spW1.fz f = true := rfl
@[go_sem] theorem spW1_fr (f : FuncId) : spW1.fr f = spV2.fr f := rfl
@[go_sem] theorem spW1_mu (t : TypeId) : spW1.mu t = spV2.mu t := rfl
theorem gSpans_c {B : List Blank} {T : List Span} (fB fT : Bool) (hs : stockOk B T = true) (o : Ob) (ho : obOk B.length T.length o = true) : PCalls Try.prog 49 [.agg [.sl (B.flatMap Blank.cs) B.length fB, .sl (T.flatMap Span.cs) T.length fT], o.t] (spansP B T o).t := by
  have hs' := stockOk_iff.1 hs
  obtain ⟨⟨p1, p2⟩, ⟨p3, p4⟩, p5, ⟨p6, p7⟩, ⟨p8, p9⟩, p10, p11⟩ := obOk_iff.1 ho
  obtain ⟨of, os, oa, ob, oc⟩ := o
  simp only at p1 p2 p3 p4 p5 p6 p7 p8 p9 p10 p11
  obtain ⟨i, rfl⟩ := Int.eq_ofNat_of_zero_le p1
  obtain ⟨j, rfl⟩ := Int.eq_ofNat_of_zero_le p3
  obtain ⟨a, rfl⟩ := Int.eq_ofNat_of_zero_le p6
  obtain ⟨b, rfl⟩ := Int.eq_ofNat_of_zero_le p8
  obtain ⟨c, rfl⟩ := Int.eq_ofNat_of_zero_le p10
  have li : (i : Int) < B.length := by omega
  have lj : (j : Int) < B.length := by omega
  have la : (a : Int) < T.length := by omega
  have lb : (b : Int) < T.length := by omega
  have lc : (c : Int) < T.length := by omega
  obtain ⟨x, hx⟩ := get_lt li
  obtain ⟨y, hy⟩ := get_lt lj
  obtain ⟨t1, h1⟩ := get_lt la
  obtain ⟨t2, h2⟩ := get_lt lb
  obtain ⟨t3, h3⟩ := get_lt lc
  have dx := flat_at Blank.cs (n := 5) (fun _ => rfl) hx
  have dy := flat_at Blank.cs (n := 5) (fun _ => rfl) hy
  have d1 := flat_at Span.cs (n := 2) (fun _ => rfl) h1
  have d2 := flat_at Span.cs (n := 2) (fun _ => rfl) h2
  have d3 := flat_at Span.cs (n := 2) (fun _ => rfl) h3
  have bx := hs'.2.2.1 x (List.mem_of_getElem? hx)
  have by_ := hs'.2.2.1 y (List.mem_of_getElem? hy)
  have b1 := hs'.2.2.2 t1 (List.mem_of_getElem? h1)
  have b2 := hs'.2.2.2 t2 (List.mem_of_getElem? h2)
  have b3 := hs'.2.2.2 t3 (List.mem_of_getElem? h3)
  obtain ⟨o, ho⟩ : ∃ o : Ob, (⟨i, j, a, b, c⟩ : Ob) = o := ⟨_, rfl⟩
  have e1 : bit1 o = if (a : Int) = b then 0 else 1 := by rw [← ho]; rfl
  have e2 : bit2 o = if (a : Int) = c then 0 else if (b : Int) = c then 1 else 2 := by rw [← ho]; rfl
  have hres : spansP B T o = ⟨minmax (corners x.i y.i t1 t2 t3 o 32), minmax (corners x.c y.c t1 t2 t3 o 32)⟩ := by
    unfold spansP
    rw [← ho]
    simp only [blankAt_eq hx, blankAt_eq hy, toolAt_eq h1, toolAt_eq h2, toolAt_eq h3]
  have ht : o.t = .agg [.int .i64 i, .int .i64 j, .int .i64 a, .int .i64 b, .int .i64 c] := by rw [← ho]; rfl
  rw [ho, hres, ht]
  have u1 : IntKind.i64.wrap 1 = 1 := rfl
  have u2 : IntKind.i64.wrap 2 = 2 := rfl
  have u3 : IntKind.i64.wrap 3 = 3 := rfl
  refine pcalls_by Try.mixes spW1_ok (fn := Try.f49) Try.func49 rfl (by kernel_rfl) (by show 2 ≤ _; decide) ?_
  simp (decide := true) (maxSteps := 4000000) only [go_sem, Nat.reduceAdd, Nat.reduceSub, Nat.reduceMul, Nat.reduceDiv, Nat.reduceMod, Nat.reduceLT, Nat.reduceLeDiff, Nat.reduceEqDiff, Nat.reduceBEq, Nat.reduceBNe, Nat.reduceGT, Int.reduceAdd, Int.reduceSub, Int.reduceMul, Int.reduceNeg, Int.reduceLT, Int.reduceLE, Int.reduceEq, Int.reduceNe, Int.reduceBEq, Int.reduceBNe, Int.reduceToNat, Int.reduceGT, Int.reduceGE, ↓reduceIte, decide_true, decide_false, eq_self, Nat.mul_one, Nat.zero_mul, Nat.one_mul, Int.le_refl, Nat.le_refl, Int.cast_ofNat_Int, Try.f49, Ob.t, Ob.cs, Int.toNat_natCast, li, lj, dx, dy, Blank.cs]
  refine pwpC_loopU (A := { k : Nat // k ≤ 32 }) [2, 3, 4, 5, 6] (fun k => [(31, .t (.int .i64 k.1)), (7, .own (ints (corners x.i y.i t1 t2 t3 o k.1)) k.1 5), (8, .own (ints (corners x.c y.c t1 t2 t3 o k.1)) k.1 6)]) (fun k => [(5, .tok k.1 3), (6, .tok k.1 3)]) (fun k => 32 - k.1) ⟨0, by omega⟩ (by decide) (fun _ => by rfl) ?_ fun Q1 hQ1 ⟨k, hk⟩ I1 hI1 => ?_
  · simp (decide := true) (maxSteps := 4000000) only [go_sem, Nat.reduceAdd, Nat.reduceSub, Nat.reduceMul, Nat.reduceDiv, Nat.reduceMod, Nat.reduceLT, Nat.reduceLeDiff, Nat.reduceEqDiff, Nat.reduceBEq, Nat.reduceBNe, Nat.reduceGT, Int.reduceAdd, Int.reduceSub, Int.reduceMul, Int.reduceNeg, Int.reduceLT, Int.reduceLE, Int.reduceEq, Int.reduceNe, Int.reduceBEq, Int.reduceBNe, Int.reduceToNat, Int.reduceGT, Int.reduceGE, ↓reduceIte, decide_true, decide_false, eq_self, Nat.mul_one, Nat.zero_mul, Nat.one_mul, Int.le_refl, Nat.le_refl, Int.cast_ofNat_Int, corners, List.range_zero, List.map_nil, ints]
    first | done | exact ⟨rfl, rfl⟩
  · have kk : ∀ q : Nat, q < 5 → (0 ≤ (k : Int) ∧ (k : Int) < 32) ∨ k = 32 := fun q _ => by omega
    by_cases hlt : (k : Int) < 32
    · have hk32 : (0 ≤ (k : Int) ∧ (k : Int) < 32) := by omega
      have hc1 : IntKind.i64.wrap (k + 1) = ((k + 1 : Nat) : Int) := by rw [wrap_in (by omega) (by omega)]; omega
      obtain ⟨c0, hc0⟩ : ∃ c0, endS t1 (k.testBit 0) = c0 := ⟨_, rfl⟩
      obtain ⟨c1, hc1'⟩ : ∃ c1, endS t2 (k.testBit (bit1 o)) = c1 := ⟨_, rfl⟩
      obtain ⟨c2, hc2⟩ : ∃ c2, endS t3 (k.testBit (bit2 o)) = c2 := ⟨_, rfl⟩
      simp (decide := true) (maxSteps := 4000000) only [go_sem, Nat.reduceAdd, Nat.reduceSub, Nat.reduceMul, Nat.reduceDiv, Nat.reduceMod, Nat.reduceLT, Nat.reduceLeDiff, Nat.reduceEqDiff, Nat.reduceBEq, Nat.reduceBNe, Nat.reduceGT, Int.reduceAdd, Int.reduceSub, Int.reduceMul, Int.reduceNeg, Int.reduceLT, Int.reduceLE, Int.reduceEq, Int.reduceNe, Int.reduceBEq, Int.reduceBNe, Int.reduceToNat, Int.reduceGT, Int.reduceGE, ↓reduceIte, decide_true, decide_false, eq_self, Nat.mul_one, Nat.zero_mul, Nat.one_mul, Int.le_refl, Nat.le_refl, Int.cast_ofNat_Int, hlt]
      refine pwpC_loopU (A := { m : Nat // m ≤ 3 }) [2, 3, 4, 5, 6, 7, 8, 9, 10, 11, 31, 36] (fun m => [(37, .t (.int .i64 m.1))]) (fun m => [(8, .box [.t (.int .i64 (if 1 ≤ m.1 then c0 else 0)), .t (.int .i64 (if 2 ≤ m.1 then c1 else 0)), .t (.int .i64 (if 3 ≤ m.1 then c2 else 0))])]) (fun m => 3 - m.1) ⟨0, by omega⟩ (by decide) (fun _ => by rfl) ?_ fun Q2 hQ2 ⟨m, hm⟩ I2 hI2 => ?_
      · simp (decide := true) (maxSteps := 4000000) only [go_sem, Nat.reduceAdd, Nat.reduceSub, Nat.reduceMul, Nat.reduceDiv, Nat.reduceMod, Nat.reduceLT, Nat.reduceLeDiff, Nat.reduceEqDiff, Nat.reduceBEq, Nat.reduceBNe, Nat.reduceGT, Int.reduceAdd, Int.reduceSub, Int.reduceMul, Int.reduceNeg, Int.reduceLT, Int.reduceLE, Int.reduceEq, Int.reduceNe, Int.reduceBEq, Int.reduceBNe, Int.reduceToNat, Int.reduceGT, Int.reduceGE, ↓reduceIte, decide_true, decide_false, eq_self, Nat.mul_one, Nat.zero_mul, Nat.one_mul, Int.le_refl, Nat.le_refl, Int.cast_ofNat_Int]
      · rcases (show m = 0 ∨ m = 1 ∨ m = 2 ∨ m = 3 by omega) with rfl | rfl | rfl | rfl
        · simp (decide := true) (maxSteps := 4000000) only [go_sem, Nat.reduceAdd, Nat.reduceSub, Nat.reduceMul, Nat.reduceDiv, Nat.reduceMod, Nat.reduceLT, Nat.reduceLeDiff, Nat.reduceEqDiff, Nat.reduceBEq, Nat.reduceBNe, Nat.reduceGT, Int.reduceAdd, Int.reduceSub, Int.reduceMul, Int.reduceNeg, Int.reduceLT, Int.reduceLE, Int.reduceEq, Int.reduceNe, Int.reduceBEq, Int.reduceBNe, Int.reduceToNat, Int.reduceGT, Int.reduceGE, ↓reduceIte, decide_true, decide_false, eq_self, Nat.mul_one, Nat.zero_mul, Nat.one_mul, Int.le_refl, Nat.le_refl, Int.cast_ofNat_Int]
          refine pwpC_loopU (A := Unit) [2, 3, 4, 5, 6, 7, 8, 9, 10, 11, 12, 13, 14, 31, 36, 37] (fun _ => [(42, .t (.int .i64 0)), (43, .t (.int .i64 0))]) (fun _ => []) (fun _ => 0) () (by decide) (fun _ => by rfl) ?_ fun Q3 hQ3 _ I3 hI3 => ?_
          · simp (decide := true) (maxSteps := 4000000) only [go_sem, Nat.reduceAdd, Nat.reduceSub, Nat.reduceMul, Nat.reduceDiv, Nat.reduceMod, Nat.reduceLT, Nat.reduceLeDiff, Nat.reduceEqDiff, Nat.reduceBEq, Nat.reduceBNe, Nat.reduceGT, Int.reduceAdd, Int.reduceSub, Int.reduceMul, Int.reduceNeg, Int.reduceLT, Int.reduceLE, Int.reduceEq, Int.reduceNe, Int.reduceBEq, Int.reduceBNe, Int.reduceToNat, Int.reduceGT, Int.reduceGE, ↓reduceIte, decide_true, decide_false, eq_self, Nat.mul_one, Nat.zero_mul, Nat.one_mul, Int.le_refl, Nat.le_refl, Int.cast_ofNat_Int]
          · simp (decide := true) (maxSteps := 4000000) only [go_sem, Nat.reduceAdd, Nat.reduceSub, Nat.reduceMul, Nat.reduceDiv, Nat.reduceMod, Nat.reduceLT, Nat.reduceLeDiff, Nat.reduceEqDiff, Nat.reduceBEq, Nat.reduceBNe, Nat.reduceGT, Int.reduceAdd, Int.reduceSub, Int.reduceMul, Int.reduceNeg, Int.reduceLT, Int.reduceLE, Int.reduceEq, Int.reduceNe, Int.reduceBEq, Int.reduceBNe, Int.reduceToNat, Int.reduceGT, Int.reduceGE, ↓reduceIte, decide_true, decide_false, eq_self, Nat.mul_one, Nat.zero_mul, Nat.one_mul, Int.le_refl, Nat.le_refl, Int.cast_ofNat_Int]
            refine hQ3 _ _ ?_
            simp (decide := true) (maxSteps := 4000000) only [go_sem, Nat.reduceAdd, Nat.reduceSub, Nat.reduceMul, Nat.reduceDiv, Nat.reduceMod, Nat.reduceLT, Nat.reduceLeDiff, Nat.reduceEqDiff, Nat.reduceBEq, Nat.reduceBNe, Nat.reduceGT, Int.reduceAdd, Int.reduceSub, Int.reduceMul, Int.reduceNeg, Int.reduceLT, Int.reduceLE, Int.reduceEq, Int.reduceNe, Int.reduceBEq, Int.reduceBNe, Int.reduceToNat, Int.reduceGT, Int.reduceGE, ↓reduceIte, decide_true, decide_false, eq_self, Nat.mul_one, Nat.zero_mul, Nat.one_mul, Int.le_refl, Nat.le_refl, Int.cast_ofNat_Int, la, Int.toNat_natCast, d1, Span.cs, hk32, hc0]
            refine hI2 _ ⟨1, by omega⟩ (by simp) ?_
            simp (decide := true) (maxSteps := 4000000) only [go_sem, Nat.reduceAdd, Nat.reduceSub, Nat.reduceMul, Nat.reduceDiv, Nat.reduceMod, Nat.reduceLT, Nat.reduceLeDiff, Nat.reduceEqDiff, Nat.reduceBEq, Nat.reduceBNe, Nat.reduceGT, Int.reduceAdd, Int.reduceSub, Int.reduceMul, Int.reduceNeg, Int.reduceLT, Int.reduceLE, Int.reduceEq, Int.reduceNe, Int.reduceBEq, Int.reduceBNe, Int.reduceToNat, Int.reduceGT, Int.reduceGE, ↓reduceIte, decide_true, decide_false, eq_self, Nat.mul_one, Nat.zero_mul, Nat.one_mul, Int.le_refl, Nat.le_refl, Int.cast_ofNat_Int, u1]
        · simp (decide := true) (maxSteps := 4000000) only [go_sem, Nat.reduceAdd, Nat.reduceSub, Nat.reduceMul, Nat.reduceDiv, Nat.reduceMod, Nat.reduceLT, Nat.reduceLeDiff, Nat.reduceEqDiff, Nat.reduceBEq, Nat.reduceBNe, Nat.reduceGT, Int.reduceAdd, Int.reduceSub, Int.reduceMul, Int.reduceNeg, Int.reduceLT, Int.reduceLE, Int.reduceEq, Int.reduceNe, Int.reduceBEq, Int.reduceBNe, Int.reduceToNat, Int.reduceGT, Int.reduceGE, ↓reduceIte, decide_true, decide_false, eq_self, Nat.mul_one, Nat.zero_mul, Nat.one_mul, Int.le_refl, Nat.le_refl, Int.cast_ofNat_Int]
          refine pwpC_loopU (A := { n : Nat // n ≤ 1 ∧ (1 ≤ n → (a : Int) ≠ b) }) [2, 3, 4, 5, 6, 7, 8, 9, 10, 11, 12, 13, 14, 31, 36, 37] (fun n => [(42, .t (.int .i64 1)), (43, .t (.int .i64 n.1))]) (fun _ => []) (fun n => 1 - n.1) ⟨0, by omega, by omega⟩ (by decide) (fun _ => by rfl) ?_ fun Q3 hQ3 ⟨n, hn, hne⟩ I3 hI3 => ?_
          · simp (decide := true) (maxSteps := 4000000) only [go_sem, Nat.reduceAdd, Nat.reduceSub, Nat.reduceMul, Nat.reduceDiv, Nat.reduceMod, Nat.reduceLT, Nat.reduceLeDiff, Nat.reduceEqDiff, Nat.reduceBEq, Nat.reduceBNe, Nat.reduceGT, Int.reduceAdd, Int.reduceSub, Int.reduceMul, Int.reduceNeg, Int.reduceLT, Int.reduceLE, Int.reduceEq, Int.reduceNe, Int.reduceBEq, Int.reduceBNe, Int.reduceToNat, Int.reduceGT, Int.reduceGE, ↓reduceIte, decide_true, decide_false, eq_self, Nat.mul_one, Nat.zero_mul, Nat.one_mul, Int.le_refl, Nat.le_refl, Int.cast_ofNat_Int]
          · rcases (show n = 0 ∨ n = 1 by omega) with rfl | rfl
            · by_cases hab : (a : Int) = b
              · have hab' : ((a : Int) == b) = true := beq_int_t hab
                rw [if_pos hab] at e1
                rw [e1] at hc1'
                simp (decide := true) (maxSteps := 4000000) only [go_sem, Nat.reduceAdd, Nat.reduceSub, Nat.reduceMul, Nat.reduceDiv, Nat.reduceMod, Nat.reduceLT, Nat.reduceLeDiff, Nat.reduceEqDiff, Nat.reduceBEq, Nat.reduceBNe, Nat.reduceGT, Int.reduceAdd, Int.reduceSub, Int.reduceMul, Int.reduceNeg, Int.reduceLT, Int.reduceLE, Int.reduceEq, Int.reduceNe, Int.reduceBEq, Int.reduceBNe, Int.reduceToNat, Int.reduceGT, Int.reduceGE, ↓reduceIte, decide_true, decide_false, eq_self, Nat.mul_one, Nat.zero_mul, Nat.one_mul, Int.le_refl, Nat.le_refl, Int.cast_ofNat_Int, hab']
                refine hQ3 _ _ ?_
                simp (decide := true) (maxSteps := 4000000) only [go_sem, Nat.reduceAdd, Nat.reduceSub, Nat.reduceMul, Nat.reduceDiv, Nat.reduceMod, Nat.reduceLT, Nat.reduceLeDiff, Nat.reduceEqDiff, Nat.reduceBEq, Nat.reduceBNe, Nat.reduceGT, Int.reduceAdd, Int.reduceSub, Int.reduceMul, Int.reduceNeg, Int.reduceLT, Int.reduceLE, Int.reduceEq, Int.reduceNe, Int.reduceBEq, Int.reduceBNe, Int.reduceToNat, Int.reduceGT, Int.reduceGE, ↓reduceIte, decide_true, decide_false, eq_self, Nat.mul_one, Nat.zero_mul, Nat.one_mul, Int.le_refl, Nat.le_refl, Int.cast_ofNat_Int, lb, Int.toNat_natCast, d2, Span.cs, hk32, hc1']
                refine hI2 _ ⟨2, by omega⟩ (by simp) ?_
                simp (decide := true) (maxSteps := 4000000) only [go_sem, Nat.reduceAdd, Nat.reduceSub, Nat.reduceMul, Nat.reduceDiv, Nat.reduceMod, Nat.reduceLT, Nat.reduceLeDiff, Nat.reduceEqDiff, Nat.reduceBEq, Nat.reduceBNe, Nat.reduceGT, Int.reduceAdd, Int.reduceSub, Int.reduceMul, Int.reduceNeg, Int.reduceLT, Int.reduceLE, Int.reduceEq, Int.reduceNe, Int.reduceBEq, Int.reduceBNe, Int.reduceToNat, Int.reduceGT, Int.reduceGE, ↓reduceIte, decide_true, decide_false, eq_self, Nat.mul_one, Nat.zero_mul, Nat.one_mul, Int.le_refl, Nat.le_refl, Int.cast_ofNat_Int, u2]
              · have hab' : ((a : Int) == b) = false := beq_int_f hab
                simp (decide := true) (maxSteps := 4000000) only [go_sem, Nat.reduceAdd, Nat.reduceSub, Nat.reduceMul, Nat.reduceDiv, Nat.reduceMod, Nat.reduceLT, Nat.reduceLeDiff, Nat.reduceEqDiff, Nat.reduceBEq, Nat.reduceBNe, Nat.reduceGT, Int.reduceAdd, Int.reduceSub, Int.reduceMul, Int.reduceNeg, Int.reduceLT, Int.reduceLE, Int.reduceEq, Int.reduceNe, Int.reduceBEq, Int.reduceBNe, Int.reduceToNat, Int.reduceGT, Int.reduceGE, ↓reduceIte, decide_true, decide_false, eq_self, Nat.mul_one, Nat.zero_mul, Nat.one_mul, Int.le_refl, Nat.le_refl, Int.cast_ofNat_Int, hab']
                refine hI3 _ ⟨1, by omega, fun _ => hab⟩ (by simp) ?_
                simp (decide := true) (maxSteps := 4000000) only [go_sem, Nat.reduceAdd, Nat.reduceSub, Nat.reduceMul, Nat.reduceDiv, Nat.reduceMod, Nat.reduceLT, Nat.reduceLeDiff, Nat.reduceEqDiff, Nat.reduceBEq, Nat.reduceBNe, Nat.reduceGT, Int.reduceAdd, Int.reduceSub, Int.reduceMul, Int.reduceNeg, Int.reduceLT, Int.reduceLE, Int.reduceEq, Int.reduceNe, Int.reduceBEq, Int.reduceBNe, Int.reduceToNat, Int.reduceGT, Int.reduceGE, ↓reduceIte, decide_true, decide_false, eq_self, Nat.mul_one, Nat.zero_mul, Nat.one_mul, Int.le_refl, Nat.le_refl, Int.cast_ofNat_Int, u1]
            · rw [if_neg (hne (by omega))] at e1
              rw [e1] at hc1'
              simp (decide := true) (maxSteps := 4000000) only [go_sem, Nat.reduceAdd, Nat.reduceSub, Nat.reduceMul, Nat.reduceDiv, Nat.reduceMod, Nat.reduceLT, Nat.reduceLeDiff, Nat.reduceEqDiff, Nat.reduceBEq, Nat.reduceBNe, Nat.reduceGT, Int.reduceAdd, Int.reduceSub, Int.reduceMul, Int.reduceNeg, Int.reduceLT, Int.reduceLE, Int.reduceEq, Int.reduceNe, Int.reduceBEq, Int.reduceBNe, Int.reduceToNat, Int.reduceGT, Int.reduceGE, ↓reduceIte, decide_true, decide_false, eq_self, Nat.mul_one, Nat.zero_mul, Nat.one_mul, Int.le_refl, Nat.le_refl, Int.cast_ofNat_Int]
              refine hQ3 _ _ ?_
              simp (decide := true) (maxSteps := 4000000) only [go_sem, Nat.reduceAdd, Nat.reduceSub, Nat.reduceMul, Nat.reduceDiv, Nat.reduceMod, Nat.reduceLT, Nat.reduceLeDiff, Nat.reduceEqDiff, Nat.reduceBEq, Nat.reduceBNe, Nat.reduceGT, Int.reduceAdd, Int.reduceSub, Int.reduceMul, Int.reduceNeg, Int.reduceLT, Int.reduceLE, Int.reduceEq, Int.reduceNe, Int.reduceBEq, Int.reduceBNe, Int.reduceToNat, Int.reduceGT, Int.reduceGE, ↓reduceIte, decide_true, decide_false, eq_self, Nat.mul_one, Nat.zero_mul, Nat.one_mul, Int.le_refl, Nat.le_refl, Int.cast_ofNat_Int, lb, Int.toNat_natCast, d2, Span.cs, hk32, hc1']
              refine hI2 _ ⟨2, by omega⟩ (by simp) ?_
              simp (decide := true) (maxSteps := 4000000) only [go_sem, Nat.reduceAdd, Nat.reduceSub, Nat.reduceMul, Nat.reduceDiv, Nat.reduceMod, Nat.reduceLT, Nat.reduceLeDiff, Nat.reduceEqDiff, Nat.reduceBEq, Nat.reduceBNe, Nat.reduceGT, Int.reduceAdd, Int.reduceSub, Int.reduceMul, Int.reduceNeg, Int.reduceLT, Int.reduceLE, Int.reduceEq, Int.reduceNe, Int.reduceBEq, Int.reduceBNe, Int.reduceToNat, Int.reduceGT, Int.reduceGE, ↓reduceIte, decide_true, decide_false, eq_self, Nat.mul_one, Nat.zero_mul, Nat.one_mul, Int.le_refl, Nat.le_refl, Int.cast_ofNat_Int, u2]
        · simp (decide := true) (maxSteps := 4000000) only [go_sem, Nat.reduceAdd, Nat.reduceSub, Nat.reduceMul, Nat.reduceDiv, Nat.reduceMod, Nat.reduceLT, Nat.reduceLeDiff, Nat.reduceEqDiff, Nat.reduceBEq, Nat.reduceBNe, Nat.reduceGT, Int.reduceAdd, Int.reduceSub, Int.reduceMul, Int.reduceNeg, Int.reduceLT, Int.reduceLE, Int.reduceEq, Int.reduceNe, Int.reduceBEq, Int.reduceBNe, Int.reduceToNat, Int.reduceGT, Int.reduceGE, ↓reduceIte, decide_true, decide_false, eq_self, Nat.mul_one, Nat.zero_mul, Nat.one_mul, Int.le_refl, Nat.le_refl, Int.cast_ofNat_Int]
          refine pwpC_loopU (A := { n : Nat // n ≤ 2 ∧ (1 ≤ n → (a : Int) ≠ c) ∧ (2 ≤ n → (b : Int) ≠ c) }) [2, 3, 4, 5, 6, 7, 8, 9, 10, 11, 12, 13, 14, 31, 36, 37] (fun n => [(42, .t (.int .i64 2)), (43, .t (.int .i64 n.1))]) (fun _ => []) (fun n => 2 - n.1) ⟨0, by omega, by omega, by omega⟩ (by decide) (fun _ => by rfl) ?_ fun Q3 hQ3 ⟨n, hn, hne, hne2⟩ I3 hI3 => ?_
          · simp (decide := true) (maxSteps := 4000000) only [go_sem, Nat.reduceAdd, Nat.reduceSub, Nat.reduceMul, Nat.reduceDiv, Nat.reduceMod, Nat.reduceLT, Nat.reduceLeDiff, Nat.reduceEqDiff, Nat.reduceBEq, Nat.reduceBNe, Nat.reduceGT, Int.reduceAdd, Int.reduceSub, Int.reduceMul, Int.reduceNeg, Int.reduceLT, Int.reduceLE, Int.reduceEq, Int.reduceNe, Int.reduceBEq, Int.reduceBNe, Int.reduceToNat, Int.reduceGT, Int.reduceGE, ↓reduceIte, decide_true, decide_false, eq_self, Nat.mul_one, Nat.zero_mul, Nat.one_mul, Int.le_refl, Nat.le_refl, Int.cast_ofNat_Int]
          · rcases (show n = 0 ∨ n = 1 ∨ n = 2 by omega) with rfl | rfl | rfl
            · by_cases hab : (a : Int) = c
              · have hab' : ((a : Int) == c) = true := beq_int_t hab
                rw [if_pos hab] at e2
                rw [e2] at hc2
                simp (decide := true) (maxSteps := 4000000) only [go_sem, Nat.reduceAdd, Nat.reduceSub, Nat.reduceMul, Nat.reduceDiv, Nat.reduceMod, Nat.reduceLT, Nat.reduceLeDiff, Nat.reduceEqDiff, Nat.reduceBEq, Nat.reduceBNe, Nat.reduceGT, Int.reduceAdd, Int.reduceSub, Int.reduceMul, Int.reduceNeg, Int.reduceLT, Int.reduceLE, Int.reduceEq, Int.reduceNe, Int.reduceBEq, Int.reduceBNe, Int.reduceToNat, Int.reduceGT, Int.reduceGE, ↓reduceIte, decide_true, decide_false, eq_self, Nat.mul_one, Nat.zero_mul, Nat.one_mul, Int.le_refl, Nat.le_refl, Int.cast_ofNat_Int, hab']
                refine hQ3 _ _ ?_
                simp (decide := true) (maxSteps := 4000000) only [go_sem, Nat.reduceAdd, Nat.reduceSub, Nat.reduceMul, Nat.reduceDiv, Nat.reduceMod, Nat.reduceLT, Nat.reduceLeDiff, Nat.reduceEqDiff, Nat.reduceBEq, Nat.reduceBNe, Nat.reduceGT, Int.reduceAdd, Int.reduceSub, Int.reduceMul, Int.reduceNeg, Int.reduceLT, Int.reduceLE, Int.reduceEq, Int.reduceNe, Int.reduceBEq, Int.reduceBNe, Int.reduceToNat, Int.reduceGT, Int.reduceGE, ↓reduceIte, decide_true, decide_false, eq_self, Nat.mul_one, Nat.zero_mul, Nat.one_mul, Int.le_refl, Nat.le_refl, Int.cast_ofNat_Int, lc, Int.toNat_natCast, d3, Span.cs, hk32, hc2]
                refine hI2 _ ⟨3, by omega⟩ (by simp) ?_
                simp (decide := true) (maxSteps := 4000000) only [go_sem, Nat.reduceAdd, Nat.reduceSub, Nat.reduceMul, Nat.reduceDiv, Nat.reduceMod, Nat.reduceLT, Nat.reduceLeDiff, Nat.reduceEqDiff, Nat.reduceBEq, Nat.reduceBNe, Nat.reduceGT, Int.reduceAdd, Int.reduceSub, Int.reduceMul, Int.reduceNeg, Int.reduceLT, Int.reduceLE, Int.reduceEq, Int.reduceNe, Int.reduceBEq, Int.reduceBNe, Int.reduceToNat, Int.reduceGT, Int.reduceGE, ↓reduceIte, decide_true, decide_false, eq_self, Nat.mul_one, Nat.zero_mul, Nat.one_mul, Int.le_refl, Nat.le_refl, Int.cast_ofNat_Int, u3]
              · have hab' : ((a : Int) == c) = false := beq_int_f hab
                simp (decide := true) (maxSteps := 4000000) only [go_sem, Nat.reduceAdd, Nat.reduceSub, Nat.reduceMul, Nat.reduceDiv, Nat.reduceMod, Nat.reduceLT, Nat.reduceLeDiff, Nat.reduceEqDiff, Nat.reduceBEq, Nat.reduceBNe, Nat.reduceGT, Int.reduceAdd, Int.reduceSub, Int.reduceMul, Int.reduceNeg, Int.reduceLT, Int.reduceLE, Int.reduceEq, Int.reduceNe, Int.reduceBEq, Int.reduceBNe, Int.reduceToNat, Int.reduceGT, Int.reduceGE, ↓reduceIte, decide_true, decide_false, eq_self, Nat.mul_one, Nat.zero_mul, Nat.one_mul, Int.le_refl, Nat.le_refl, Int.cast_ofNat_Int, hab']
                refine hI3 _ ⟨1, by omega, fun _ => hab, by omega⟩ (by simp) ?_
                simp (decide := true) (maxSteps := 4000000) only [go_sem, Nat.reduceAdd, Nat.reduceSub, Nat.reduceMul, Nat.reduceDiv, Nat.reduceMod, Nat.reduceLT, Nat.reduceLeDiff, Nat.reduceEqDiff, Nat.reduceBEq, Nat.reduceBNe, Nat.reduceGT, Int.reduceAdd, Int.reduceSub, Int.reduceMul, Int.reduceNeg, Int.reduceLT, Int.reduceLE, Int.reduceEq, Int.reduceNe, Int.reduceBEq, Int.reduceBNe, Int.reduceToNat, Int.reduceGT, Int.reduceGE, ↓reduceIte, decide_true, decide_false, eq_self, Nat.mul_one, Nat.zero_mul, Nat.one_mul, Int.le_refl, Nat.le_refl, Int.cast_ofNat_Int, u1]
            · by_cases hab : (b : Int) = c
              · have hab' : ((b : Int) == c) = true := beq_int_t hab
                rw [if_neg (hne (by omega)), if_pos hab] at e2
                rw [e2] at hc2
                simp (decide := true) (maxSteps := 4000000) only [go_sem, Nat.reduceAdd, Nat.reduceSub, Nat.reduceMul, Nat.reduceDiv, Nat.reduceMod, Nat.reduceLT, Nat.reduceLeDiff, Nat.reduceEqDiff, Nat.reduceBEq, Nat.reduceBNe, Nat.reduceGT, Int.reduceAdd, Int.reduceSub, Int.reduceMul, Int.reduceNeg, Int.reduceLT, Int.reduceLE, Int.reduceEq, Int.reduceNe, Int.reduceBEq, Int.reduceBNe, Int.reduceToNat, Int.reduceGT, Int.reduceGE, ↓reduceIte, decide_true, decide_false, eq_self, Nat.mul_one, Nat.zero_mul, Nat.one_mul, Int.le_refl, Nat.le_refl, Int.cast_ofNat_Int, hab']
                refine hQ3 _ _ ?_
                simp (decide := true) (maxSteps := 4000000) only [go_sem, Nat.reduceAdd, Nat.reduceSub, Nat.reduceMul, Nat.reduceDiv, Nat.reduceMod, Nat.reduceLT, Nat.reduceLeDiff, Nat.reduceEqDiff, Nat.reduceBEq, Nat.reduceBNe, Nat.reduceGT, Int.reduceAdd, Int.reduceSub, Int.reduceMul, Int.reduceNeg, Int.reduceLT, Int.reduceLE, Int.reduceEq, Int.reduceNe, Int.reduceBEq, Int.reduceBNe, Int.reduceToNat, Int.reduceGT, Int.reduceGE, ↓reduceIte, decide_true, decide_false, eq_self, Nat.mul_one, Nat.zero_mul, Nat.one_mul, Int.le_refl, Nat.le_refl, Int.cast_ofNat_Int, lc, Int.toNat_natCast, d3, Span.cs, hk32, hc2]
                refine hI2 _ ⟨3, by omega⟩ (by simp) ?_
                simp (decide := true) (maxSteps := 4000000) only [go_sem, Nat.reduceAdd, Nat.reduceSub, Nat.reduceMul, Nat.reduceDiv, Nat.reduceMod, Nat.reduceLT, Nat.reduceLeDiff, Nat.reduceEqDiff, Nat.reduceBEq, Nat.reduceBNe, Nat.reduceGT, Int.reduceAdd, Int.reduceSub, Int.reduceMul, Int.reduceNeg, Int.reduceLT, Int.reduceLE, Int.reduceEq, Int.reduceNe, Int.reduceBEq, Int.reduceBNe, Int.reduceToNat, Int.reduceGT, Int.reduceGE, ↓reduceIte, decide_true, decide_false, eq_self, Nat.mul_one, Nat.zero_mul, Nat.one_mul, Int.le_refl, Nat.le_refl, Int.cast_ofNat_Int, u3]
              · have hab' : ((b : Int) == c) = false := beq_int_f hab
                simp (decide := true) (maxSteps := 4000000) only [go_sem, Nat.reduceAdd, Nat.reduceSub, Nat.reduceMul, Nat.reduceDiv, Nat.reduceMod, Nat.reduceLT, Nat.reduceLeDiff, Nat.reduceEqDiff, Nat.reduceBEq, Nat.reduceBNe, Nat.reduceGT, Int.reduceAdd, Int.reduceSub, Int.reduceMul, Int.reduceNeg, Int.reduceLT, Int.reduceLE, Int.reduceEq, Int.reduceNe, Int.reduceBEq, Int.reduceBNe, Int.reduceToNat, Int.reduceGT, Int.reduceGE, ↓reduceIte, decide_true, decide_false, eq_self, Nat.mul_one, Nat.zero_mul, Nat.one_mul, Int.le_refl, Nat.le_refl, Int.cast_ofNat_Int, hab']
                refine hI3 _ ⟨2, by omega, fun _ => hne (by omega), fun _ => hab⟩ (by simp) ?_
                simp (decide := true) (maxSteps := 4000000) only [go_sem, Nat.reduceAdd, Nat.reduceSub, Nat.reduceMul, Nat.reduceDiv, Nat.reduceMod, Nat.reduceLT, Nat.reduceLeDiff, Nat.reduceEqDiff, Nat.reduceBEq, Nat.reduceBNe, Nat.reduceGT, Int.reduceAdd, Int.reduceSub, Int.reduceMul, Int.reduceNeg, Int.reduceLT, Int.reduceLE, Int.reduceEq, Int.reduceNe, Int.reduceBEq, Int.reduceBNe, Int.reduceToNat, Int.reduceGT, Int.reduceGE, ↓reduceIte, decide_true, decide_false, eq_self, Nat.mul_one, Nat.zero_mul, Nat.one_mul, Int.le_refl, Nat.le_refl, Int.cast_ofNat_Int, u2]
            · rw [if_neg (hne (by omega)), if_neg (hne2 (by omega))] at e2
              rw [e2] at hc2
              simp (decide := true) (maxSteps := 4000000) only [go_sem, Nat.reduceAdd, Nat.reduceSub, Nat.reduceMul, Nat.reduceDiv, Nat.reduceMod, Nat.reduceLT, Nat.reduceLeDiff, Nat.reduceEqDiff, Nat.reduceBEq, Nat.reduceBNe, Nat.reduceGT, Int.reduceAdd, Int.reduceSub, Int.reduceMul, Int.reduceNeg, Int.reduceLT, Int.reduceLE, Int.reduceEq, Int.reduceNe, Int.reduceBEq, Int.reduceBNe, Int.reduceToNat, Int.reduceGT, Int.reduceGE, ↓reduceIte, decide_true, decide_false, eq_self, Nat.mul_one, Nat.zero_mul, Nat.one_mul, Int.le_refl, Nat.le_refl, Int.cast_ofNat_Int]
              refine hQ3 _ _ ?_
              simp (decide := true) (maxSteps := 4000000) only [go_sem, Nat.reduceAdd, Nat.reduceSub, Nat.reduceMul, Nat.reduceDiv, Nat.reduceMod, Nat.reduceLT, Nat.reduceLeDiff, Nat.reduceEqDiff, Nat.reduceBEq, Nat.reduceBNe, Nat.reduceGT, Int.reduceAdd, Int.reduceSub, Int.reduceMul, Int.reduceNeg, Int.reduceLT, Int.reduceLE, Int.reduceEq, Int.reduceNe, Int.reduceBEq, Int.reduceBNe, Int.reduceToNat, Int.reduceGT, Int.reduceGE, ↓reduceIte, decide_true, decide_false, eq_self, Nat.mul_one, Nat.zero_mul, Nat.one_mul, Int.le_refl, Nat.le_refl, Int.cast_ofNat_Int, lc, Int.toNat_natCast, d3, Span.cs, hk32, hc2]
              refine hI2 _ ⟨3, by omega⟩ (by simp) ?_
              simp (decide := true) (maxSteps := 4000000) only [go_sem, Nat.reduceAdd, Nat.reduceSub, Nat.reduceMul, Nat.reduceDiv, Nat.reduceMod, Nat.reduceLT, Nat.reduceLeDiff, Nat.reduceEqDiff, Nat.reduceBEq, Nat.reduceBNe, Nat.reduceGT, Int.reduceAdd, Int.reduceSub, Int.reduceMul, Int.reduceNeg, Int.reduceLT, Int.reduceLE, Int.reduceEq, Int.reduceNe, Int.reduceBEq, Int.reduceBNe, Int.reduceToNat, Int.reduceGT, Int.reduceGE, ↓reduceIte, decide_true, decide_false, eq_self, Nat.mul_one, Nat.zero_mul, Nat.one_mul, Int.le_refl, Nat.le_refl, Int.cast_ofNat_Int, u3]
        · simp (decide := true) (maxSteps := 4000000) only [go_sem, Nat.reduceAdd, Nat.reduceSub, Nat.reduceMul, Nat.reduceDiv, Nat.reduceMod, Nat.reduceLT, Nat.reduceLeDiff, Nat.reduceEqDiff, Nat.reduceBEq, Nat.reduceBNe, Nat.reduceGT, Int.reduceAdd, Int.reduceSub, Int.reduceMul, Int.reduceNeg, Int.reduceLT, Int.reduceLE, Int.reduceEq, Int.reduceNe, Int.reduceBEq, Int.reduceBNe, Int.reduceToNat, Int.reduceGT, Int.reduceGE, ↓reduceIte, decide_true, decide_false, eq_self, Nat.mul_one, Nat.zero_mul, Nat.one_mul, Int.le_refl, Nat.le_refl, Int.cast_ofNat_Int]
          refine hQ2 _ _ ?_
          have m1 := endS_mem (by omega : x.i.lo ≤ x.i.hi) (k.testBit 3)
          have m2 := endS_mem (by omega : y.i.lo ≤ y.i.hi) (k.testBit 4)
          have m3 := endS_mem (by omega : x.c.lo ≤ x.c.hi) (k.testBit 3)
          have m4 := endS_mem (by omega : y.c.lo ≤ y.c.hi) (k.testBit 4)
          have m5 := endS_mem (by omega : t1.lo ≤ t1.hi) (k.testBit 0)
          have m6 := endS_mem (by omega : t2.lo ≤ t2.hi) (k.testBit (bit1 o))
          have m7 := endS_mem (by omega : t3.lo ≤ t3.hi) (k.testBit (bit2 o))
          rw [hc0] at m5
          rw [hc1'] at m6
          rw [hc2] at m7
          have v1 : cornV x.i y.i t1 t2 t3 o k = pw (endS x.i (k.testBit 3)) (endS y.i (k.testBit 4)) c0 c1 c2 := by unfold cornV; rw [hc0, hc1', hc2]
          have v2 : cornV x.c y.c t1 t2 t3 o k = pw (endS x.c (k.testBit 3)) (endS y.c (k.testBit 4)) c0 c1 c2 := by unfold cornV; rw [hc0, hc1', hc2]
          have q1 := (pw_wrap (n1 := endS x.i (k.testBit 3)) (n2 := endS y.i (k.testBit 4)) (f := c0) (m := c1) (b := c2) (by omega) (by omega) (by omega) (by omega) (by omega)).1
          have q2 := (pw_wrap (n1 := endS x.c (k.testBit 3)) (n2 := endS y.c (k.testBit 4)) (f := c0) (m := c1) (b := c2) (by omega) (by omega) (by omega) (by omega) (by omega)).1
          rw [← v1] at q1
          rw [← v2] at q2
          have hroom : (k + 1) * 8 ≤ 140737488355328 := by omega
          have el1 : (ints (corners x.i y.i t1 t2 t3 o k)).length = k := by rw [ints_len, corners_len]
          have el2 : (ints (corners x.c y.c t1 t2 t3 o k)).length = k := by rw [ints_len, corners_len]
          simp (decide := true) (maxSteps := 4000000) only [go_sem, Nat.reduceAdd, Nat.reduceSub, Nat.reduceMul, Nat.reduceDiv, Nat.reduceMod, Nat.reduceLT, Nat.reduceLeDiff, Nat.reduceEqDiff, Nat.reduceBEq, Nat.reduceBNe, Nat.reduceGT, Int.reduceAdd, Int.reduceSub, Int.reduceMul, Int.reduceNeg, Int.reduceLT, Int.reduceLE, Int.reduceEq, Int.reduceNe, Int.reduceBEq, Int.reduceBNe, Int.reduceToNat, Int.reduceGT, Int.reduceGE, ↓reduceIte, decide_true, decide_false, eq_self, Nat.mul_one, Nat.zero_mul, Nat.one_mul, Int.le_refl, Nat.le_refl, Int.cast_ofNat_Int, hk32, Int.toNat_natCast, q1, q2, hroom, el1, el2]
          refine hI1 _ ⟨k + 1, by omega⟩ (by simp only; omega) ?_
          simp (decide := true) (maxSteps := 4000000) only [go_sem, Nat.reduceAdd, Nat.reduceSub, Nat.reduceMul, Nat.reduceDiv, Nat.reduceMod, Nat.reduceLT, Nat.reduceLeDiff, Nat.reduceEqDiff, Nat.reduceBEq, Nat.reduceBNe, Nat.reduceGT, Int.reduceAdd, Int.reduceSub, Int.reduceMul, Int.reduceNeg, Int.reduceLT, Int.reduceLE, Int.reduceEq, Int.reduceNe, Int.reduceBEq, Int.reduceBNe, Int.reduceToNat, Int.reduceGT, Int.reduceGE, ↓reduceIte, decide_true, decide_false, eq_self, Nat.mul_one, Nat.zero_mul, Nat.one_mul, Int.le_refl, Nat.le_refl, Int.cast_ofNat_Int, hc1, corners_succ, ints_snoc']
    · have hk32 : k = 32 := by omega
      subst hk32
      simp (decide := true) (maxSteps := 4000000) only [go_sem, Nat.reduceAdd, Nat.reduceSub, Nat.reduceMul, Nat.reduceDiv, Nat.reduceMod, Nat.reduceLT, Nat.reduceLeDiff, Nat.reduceEqDiff, Nat.reduceBEq, Nat.reduceBNe, Nat.reduceGT, Int.reduceAdd, Int.reduceSub, Int.reduceMul, Int.reduceNeg, Int.reduceLT, Int.reduceLE, Int.reduceEq, Int.reduceNe, Int.reduceBEq, Int.reduceBNe, Int.reduceToNat, Int.reduceGT, Int.reduceGE, ↓reduceIte, decide_true, decide_false, eq_self, Nat.mul_one, Nat.zero_mul, Nat.one_mul, Int.le_refl, Nat.le_refl, Int.cast_ofNat_Int, hlt]
      refine hQ1 _ _ ?_
      obtain ⟨P0, PL, hP⟩ : ∃ z l, corners x.i y.i t1 t2 t3 o 32 = z :: l := ⟨_, _, rfl⟩
      obtain ⟨C0, CL, hC⟩ : ∃ z l, corners x.c y.c t1 t2 t3 o 32 = z :: l := ⟨_, _, rfl⟩
      have lP : PL.length = 31 := by have := corners_len x.i y.i t1 t2 t3 o 32; rw [hP] at this; simpa using this
      have lC : CL.length = 31 := by have := corners_len x.c y.c t1 t2 t3 o 32; rw [hC] at this; simpa using this
      have iP : ints (P0 :: PL) = .int .i64 P0 :: ints PL := rfl
      have iC : ints (C0 :: CL) = .int .i64 C0 :: ints CL := rfl
      have kP : List.take 31 (ints PL) = ints PL := List.take_of_length_le (by rw [ints_len]; omega)
      have kC : List.take 31 (ints CL) = ints CL := List.take_of_length_le (by rw [ints_len]; omega)
      rw [hP, hC]
      simp (decide := true) (maxSteps := 4000000) only [go_sem, Nat.reduceAdd, Nat.reduceSub, Nat.reduceMul, Nat.reduceDiv, Nat.reduceMod, Nat.reduceLT, Nat.reduceLeDiff, Nat.reduceEqDiff, Nat.reduceBEq, Nat.reduceBNe, Nat.reduceGT, Int.reduceAdd, Int.reduceSub, Int.reduceMul, Int.reduceNeg, Int.reduceLT, Int.reduceLE, Int.reduceEq, Int.reduceNe, Int.reduceBEq, Int.reduceBNe, Int.reduceToNat, Int.reduceGT, Int.reduceGE, ↓reduceIte, decide_true, decide_false, eq_self, Nat.mul_one, Nat.zero_mul, Nat.one_mul, Int.le_refl, Nat.le_refl, Int.cast_ofNat_Int, iP, iC, ints_len, lP, lC, kP, kC, unI_eq, List.length_cons, Sn.t, minmax]
noncomputable def glSpans : List TV → Option TV
  | [.agg [.sl cB n fB, .sl cT m fT], .agg [.int .i64 f, .int .i64 s, .int .i64 a, .int .i64 b, .int .i64 c]] => match unBlanks cB, unSpans cT with
    | some B, some T => if n = B.length ∧ m = T.length ∧ stockOk B T = true ∧ obOk B.length T.length ⟨f, s, a, b, c⟩ = true then some (spansP B T ⟨f, s, a, b, c⟩).t else none
    | _, _ => none
  | _ => none
theorem glSpans_ok : ∀ xs r, glSpans xs = some r → PCalls Try.prog 49 xs r := by
  intro xs r h
  unfold glSpans at h
  split at h
  · split at h
    · rename_i B T hB hT
      split at h
      · rename_i hc; cases h
        obtain ⟨rfl, rfl, h1, h2⟩ := hc
        rw [unBlanks_some hB, unSpans_some hT]
        exact gSpans_c _ _ h1 _ h2
      · cases h
    · cases h
  · cases h
attribute [go_sem] glSpans
noncomputable def spW2 : Pm.Spec := spV2.one 49 glSpans
@[go_sem] theorem spW2_p (f : FuncId) (xs : List TV) : spW2.p f xs = Pm.Spec.p (spV2.one 49 glSpans) f xs := rfl
@[go_sem] theorem spW2_h (f : FuncId) (ps : List PV) (hl : List PO) : spW2.h f ps hl = Pm.Spec.h (spV2.one 49 glSpans) f ps hl := rfl
@[go_sem] theorem spW2_y (Y : Pm.YS) (f : FuncId) (ps : List PV) (hl : List PO) : spW2.y Y f ps hl = Pm.Spec.y (spV2.one 49 glSpans) Y f ps hl := rfl
@[go_sem] theorem spW2_fz (f : FuncId) : spW2.fz f = Pm.Spec.fz (spV2.one 49 glSpans) f := rfl
@[go_sem] theorem spW2_fr (f : FuncId) : spW2.fr f = Pm.Spec.fr (spV2.one 49 glSpans) f := rfl
@[go_sem] theorem spW2_yf (f : FuncId) : spW2.yf f = Pm.Spec.yf (spV2.one 49 glSpans) f := rfl
@[go_sem] theorem spW2_mu (t : TypeId) : spW2.mu t = Pm.Spec.mu (spV2.one 49 glSpans) t := rfl
@[go_sem] theorem spW2_nf (t : TypeId) : spW2.nf t = Pm.Spec.nf (spV2.one 49 glSpans) t := rfl
theorem spW2_ok : SpecOk Try.prog spW2 := Spec.one_ok glSpans_ok spV2_ok
end Go.Proofs.Ytadkjjnnnkfalaa.Gl

/- Part Gq. -/
namespace Go.Oc.Gl
end Go.Oc.Gl
namespace Go.Proofs.Ytadkjjnnnkfalaa.Gl
end Go.Proofs.Ytadkjjnnnkfalaa.Gl
namespace Go.Oc.Gl
open Go Go.Pm
theorem foldl_min_le : ∀ (l : List Int) (a : Int), l.foldl min a ≤ a ∧ ∀ x ∈ l, l.foldl min a ≤ x
  | [], a => ⟨Int.le_refl _, fun x h => by cases h⟩
  | y :: l, a => by
    obtain ⟨h1, h2⟩ := foldl_min_le l (min a y)
    simp only [List.foldl_cons]
    refine ⟨by omega, fun x hx => ?_⟩
    rcases List.mem_cons.1 hx with rfl | hx
    · omega
    · exact h2 x hx
theorem foldl_min_mem : ∀ (l : List Int) (a : Int), l.foldl min a ∈ a :: l
  | [], a => by simp
  | y :: l, a => by
    have := foldl_min_mem l (min a y)
    simp only [List.foldl_cons]
    rcases List.mem_cons.1 this with h | h
    · rw [h]
      rcases (show min a y = a ∨ min a y = y by omega) with e | e <;> rw [e] <;> simp
    · simp [h]
theorem foldl_max_le : ∀ (l : List Int) (a : Int), a ≤ l.foldl max a ∧ ∀ x ∈ l, x ≤ l.foldl max a
  | [], a => ⟨Int.le_refl _, fun x h => by cases h⟩
  | y :: l, a => by
    obtain ⟨h1, h2⟩ := foldl_max_le l (max a y)
    simp only [List.foldl_cons]
    refine ⟨by omega, fun x hx => ?_⟩
    rcases List.mem_cons.1 hx with rfl | hx
    · omega
    · exact h2 x hx
theorem foldl_max_mem : ∀ (l : List Int) (a : Int), l.foldl max a ∈ a :: l
  | [], a => by simp
  | y :: l, a => by
    have := foldl_max_mem l (max a y)
    simp only [List.foldl_cons]
    rcases List.mem_cons.1 this with h | h
    · rw [h]
      rcases (show max a y = a ∨ max a y = y by omega) with e | e <;> rw [e] <;> simp
    · simp [h]
theorem minmax_le {l : List Int} {x : Int} (h : x ∈ l) : (minmax l).lo ≤ x ∧ x ≤ (minmax l).hi := by
  cases l with
  | nil => cases h
  | cons y l =>
    simp only [minmax]
    have a := foldl_min_le l y
    have b := foldl_max_le l y
    rcases List.mem_cons.1 h with rfl | h
    · exact ⟨a.1, b.1⟩
    · exact ⟨a.2 x h, b.2 x h⟩
theorem minmax_mem {l : List Int} (h : l ≠ []) : (minmax l).lo ∈ l ∧ (minmax l).hi ∈ l := by
  cases l with
  | nil => exact absurd rfl h
  | cons y l => exact ⟨foldl_min_mem l y, foldl_max_mem l y⟩
theorem minmax_ext {l l' : List Int} (h : l ≠ []) (h' : l' ≠ []) (he : ∀ x, x ∈ l ↔ x ∈ l') : minmax l = minmax l' := by
  obtain ⟨a, b⟩ := minmax_mem h
  obtain ⟨c, d⟩ := minmax_mem h'
  have a' := minmax_le ((he _).1 a)
  have b' := minmax_le ((he _).1 b)
  have c' := minmax_le ((he _).2 c)
  have d' := minmax_le ((he _).2 d)
  have e1 : (minmax l).lo = (minmax l').lo := by omega
  have e2 : (minmax l).hi = (minmax l').hi := by omega
  cases hl : minmax l; cases hl' : minmax l'
  rw [hl, hl'] at e1 e2
  simp only at e1 e2
  rw [e1, e2]
theorem minmax_snoc (l : List Int) (x : Int) (h : l ≠ []) : minmax (l ++ [x]) = ⟨min (minmax l).lo x, max (minmax l).hi x⟩ := by
  cases l with
  | nil => exact absurd rfl h
  | cons y l => simp only [minmax, List.cons_append, List.foldl_append, List.foldl_cons, List.foldl_nil]

/-- In ends: what both lenses do. -/
def endV (s1 s2 : Span) (T : List Span) (o : Ob) (hi hj : Bool) (g : Int → Bool) : Int :=
  pw (endS s1 hi) (endS s2 hj) (endS (toolAt T o.a) (g o.a)) (endS (toolAt T o.b) (g o.b)) (endS (toolAt T o.c) (g o.c))
theorem bits5 (b0 b1 b2 b3 b4 : Bool) : ∃ k : Nat, k < 32 ∧ k.testBit 0 = b0 ∧ k.testBit 1 = b1 ∧ k.testBit 2 = b2 ∧ k.testBit 3 = b3 ∧ k.testBit 4 = b4 :=
  ⟨b0.toNat + 2 * b1.toNat + 4 * b2.toNat + 8 * b3.toNat + 16 * b4.toNat, by cases b0 <;> cases b1 <;> cases b2 <;> cases b3 <;> cases b4 <;> decide⟩
theorem corner_iff (s1 s2 : Span) (T : List Span) (o : Ob) (v : Int) : v ∈ corners s1 s2 (toolAt T o.a) (toolAt T o.b) (toolAt T o.c) o 32 ↔ ∃ hi hj g, v = endV s1 s2 T o hi hj g := by
  unfold corners
  rw [List.mem_map]
  constructor
  · rintro ⟨k, _, rfl⟩
    refine ⟨k.testBit 3, k.testBit 4, fun t => if t = o.a then k.testBit 0 else if t = o.b then k.testBit 1 else k.testBit 2, ?_⟩
    unfold cornV endV
    have e1 : k.testBit (bit1 o) = if o.b = o.a then k.testBit 0 else k.testBit 1 := by
      unfold bit1
      by_cases h : o.a = o.b
      · rw [if_pos h, if_pos h.symm]
      · rw [if_neg h, if_neg (fun e => h e.symm)]
    have e2 : k.testBit (bit2 o) = if o.c = o.a then k.testBit 0 else if o.c = o.b then k.testBit 1 else k.testBit 2 := by
      unfold bit2
      by_cases h : o.a = o.c
      · rw [if_pos h, if_pos h.symm]
      · rw [if_neg h, if_neg (show ¬ o.c = o.a from fun e => h e.symm)]
        by_cases h2 : o.b = o.c
        · rw [if_pos h2, if_pos h2.symm]
        · rw [if_neg h2, if_neg (show ¬ o.c = o.b from fun e => h2 e.symm)]
    rw [e1, e2]
    simp only [if_true]
  · rintro ⟨hi, hj, g, rfl⟩
    obtain ⟨k, hk, k0, k1, k2, k3, k4⟩ := bits5 (g o.a) (g o.b) (g o.c) hi hj
    refine ⟨k, List.mem_range.2 hk, ?_⟩
    unfold cornV endV
    have e1 : k.testBit (bit1 o) = g o.b := by
      unfold bit1
      split
      · rename_i h; rw [k0, h]
      · exact k1
    have e2 : k.testBit (bit2 o) = g o.c := by
      unfold bit2
      split
      · rename_i h; rw [k0, h]
      · split
        · rename_i h; rw [k1, h]
        · exact k2
    rw [k0, e1, e2, k3, k4]
theorem corners_ne (s1 s2 t1 t2 t3 : Span) (o : Ob) : corners s1 s2 t1 t2 t3 o 32 ≠ [] := by
  intro h
  have := corners_len s1 s2 t1 t2 t3 o 32
  rw [h] at this; simp at this
/-- A number that is affine in another one is at least what it is at one of its ends, and at most what it is at one of them. -/
theorem affine_ends {s : Span} {x A : Int} (h : s.lo ≤ x ∧ x ≤ s.hi) : (∃ b, A * endS s b ≤ A * x) ∧ ∃ b, A * x ≤ A * endS s b := by
  unfold endS
  rcases Int.le_total 0 A with h0 | h0
  · have a := Int.mul_le_mul_of_nonneg_left h.1 h0
    have b := Int.mul_le_mul_of_nonneg_left h.2 h0
    exact ⟨⟨false, by simpa using a⟩, ⟨true, by simpa using b⟩⟩
  · have a := Int.mul_le_mul_of_nonpos_left h0 h.1
    have b := Int.mul_le_mul_of_nonpos_left h0 h.2
    exact ⟨⟨true, by simpa using b⟩, ⟨false, by simpa using a⟩⟩
theorem blank_ok {B : List Blank} {T : List Span} (hs : stockOk B T = true) {i : Int} (h0 : 0 ≤ i) (h1 : i < B.length) : (1 ≤ (blankAt B i).i.lo ∧ (blankAt B i).i.lo ≤ (blankAt B i).i.hi ∧ (blankAt B i).i.hi ≤ 100000) ∧ (1 ≤ (blankAt B i).c.lo ∧ (blankAt B i).c.lo ≤ (blankAt B i).c.hi ∧ (blankAt B i).c.hi ≤ 5000) ∧ 0 ≤ (blankAt B i).pr ∧ (blankAt B i).pr ≤ 1000000 := by
  obtain ⟨k, rfl⟩ := Int.eq_ofNat_of_zero_le h0
  obtain ⟨x, hx⟩ := get_lt h1
  rw [blankAt_eq hx]
  exact (stockOk_iff.1 hs).2.2.1 x (List.mem_of_getElem? hx)
theorem tool_ok {B : List Blank} {T : List Span} (hs : stockOk B T = true) {i : Int} (h0 : 0 ≤ i) (h1 : i < T.length) : -1000 ≤ (toolAt T i).lo ∧ (toolAt T i).lo ≤ (toolAt T i).hi ∧ (toolAt T i).hi ≤ 1000 := by
  obtain ⟨k, rfl⟩ := Int.eq_ofNat_of_zero_le h0
  obtain ⟨x, hx⟩ := get_lt h1
  rw [toolAt_eq hx]
  exact (stockOk_iff.1 hs).2.2.2 x (List.mem_of_getElem? hx)
/-- What both lenses do in ends is bounded. -/
theorem endV_bound {B : List Blank} {T : List Span} (hs : stockOk B T = true) {o : Ob} (ho : obOk B.length T.length o = true) {s1 s2 : Span} (h1 : 0 ≤ s1.lo ∧ s1.lo ≤ s1.hi ∧ s1.hi ≤ 100000) (h2 : 0 ≤ s2.lo ∧ s2.lo ≤ s2.hi ∧ s2.hi ≤ 100000) (hi hj : Bool) (g : Int → Bool) :
    -400000000 ≤ endV s1 s2 T o hi hj g ∧ endV s1 s2 T o hi hj g ≤ 400000000 := by
  obtain ⟨a, b, c, d, e, f⟩ := obOk_iff.1 ho
  have m1 := endS_mem h1.2.1 hi
  have m2 := endS_mem h2.2.1 hj
  have t1 := tool_ok hs d.1 (by omega)
  have t2 := tool_ok hs e.1 (by omega)
  have t3 := tool_ok hs f.1 (by omega)
  have m3 := endS_mem t1.2.1 (g o.a)
  have m4 := endS_mem t2.2.1 (g o.b)
  have m5 := endS_mem t3.2.1 (g o.c)
  exact (pw_wrap (n1 := endS s1 hi) (n2 := endS s2 hj) (f := endS (toolAt T o.a) (g o.a)) (m := endS (toolAt T o.b) (g o.b)) (b := endS (toolAt T o.c) (g o.c)) (by omega) (by omega) (by omega) (by omega) (by omega)).2
theorem spansP_bound {B : List Blank} {T : List Span} (hs : stockOk B T = true) {o : Ob} (ho : obOk B.length T.length o = true) : ((-400000000 ≤ (spansP B T o).p.lo ∧ (spansP B T o).p.lo ≤ (spansP B T o).p.hi ∧ (spansP B T o).p.hi ≤ 400000000)) ∧ -400000000 ≤ (spansP B T o).c.lo ∧ (spansP B T o).c.lo ≤ (spansP B T o).c.hi ∧ (spansP B T o).c.hi ≤ 400000000 := by
  obtain ⟨a, b, c, d, e, f⟩ := obOk_iff.1 ho
  have b1 := blank_ok hs a.1 (by omega)
  have b2 := blank_ok hs b.1 (by omega)
  unfold spansP
  simp only
  have key : ∀ s1 s2 : Span, (0 ≤ s1.lo ∧ s1.lo ≤ s1.hi ∧ s1.hi ≤ 100000) → (0 ≤ s2.lo ∧ s2.lo ≤ s2.hi ∧ s2.hi ≤ 100000) → -400000000 ≤ (minmax (corners s1 s2 (toolAt T o.a) (toolAt T o.b) (toolAt T o.c) o 32)).lo ∧ (minmax (corners s1 s2 (toolAt T o.a) (toolAt T o.b) (toolAt T o.c) o 32)).lo ≤ (minmax (corners s1 s2 (toolAt T o.a) (toolAt T o.b) (toolAt T o.c) o 32)).hi ∧ (minmax (corners s1 s2 (toolAt T o.a) (toolAt T o.b) (toolAt T o.c) o 32)).hi ≤ 400000000 := by
    intro s1 s2 h1 h2
    obtain ⟨m1, m2⟩ := minmax_mem (corners_ne s1 s2 (toolAt T o.a) (toolAt T o.b) (toolAt T o.c) o)
    have m3 := minmax_le m1
    obtain ⟨hi, hj, g, e1⟩ := (corner_iff ..).1 m1
    obtain ⟨hi', hj', g', e2⟩ := (corner_iff ..).1 m2
    have q1 := endV_bound hs ho h1 h2 hi hj g
    have q2 := endV_bound hs ho h1 h2 hi' hj' g'
    rw [← e1] at q1
    rw [← e2] at q2
    omega
  exact ⟨key _ _ (by omega) (by omega), key _ _ (by omega) (by omega)⟩
end Go.Oc.Gl

/- Part Gx. -/
namespace Go.Oc.Gl
end Go.Oc.Gl
namespace Go.Proofs.Ytadkjjnnnkfalaa.Gl
end Go.Proofs.Ytadkjjnnnkfalaa.Gl
namespace Go.Proofs.Ytadkjjnnnkfalaa.Gl
open Go.RowKit Go.Pm Go.Oc Go.Oc.Gl
set_option maxRecDepth 100000
set_option linter.unusedVariables false
set_option maxHeartbeats 4000000

theorem gSpansE_c {B : List Blank} {T : List Span} {sB sT : TV} (hB : IsRow Blank.cs sB B) (hT : IsRow Span.cs sT T) (hlB : B.length ≤ 5864062014806) (hlT : T.length ≤ 9000000000000) (o : Ob) : PCalls Try.prog 10 [.agg [sB, sT], o.t] (.tup [(spansE B T o).1.p.t, (spansE B T o).1.c.t, .int .i64 (spansE B T o).2]) := by
  have u1 : unBlanks [] = some [] := rfl
  have u2 : unSpans [] = some [] := rfl
  refine pcalls_by Try.mixes spW2_ok (fn := Try.f10) Try.func10 rfl (by kernel_rfl) (by show 2 ≤ _; decide) ?_
  unfold spansE
  cases hs : stockOk B T with
  | false => rcases hB with ⟨rfl, rfl⟩ | ⟨fB, rfl⟩ <;> rcases hT with ⟨rfl, rfl⟩ | ⟨fT, rfl⟩ <;> simp (decide := true) (maxSteps := 4000000) only [go_sem, Nat.reduceAdd, Nat.reduceSub, Nat.reduceMul, Nat.reduceDiv, Nat.reduceMod, Nat.reduceLT, Nat.reduceLeDiff, Nat.reduceEqDiff, Nat.reduceBEq, Nat.reduceBNe, Nat.reduceGT, Int.reduceAdd, Int.reduceSub, Int.reduceMul, Int.reduceNeg, Int.reduceLT, Int.reduceLE, Int.reduceEq, Int.reduceNe, Int.reduceBEq, Int.reduceBNe, Int.reduceToNat, Int.reduceGT, Int.reduceGE, ↓reduceIte, decide_true, decide_false, eq_self, Nat.mul_one, Nat.zero_mul, Nat.one_mul, Int.le_refl, Nat.le_refl, Int.cast_ofNat_Int, Try.f10, Ob.t, Ob.cs, u1, u2, hlB, hlT, hs, Span.t, Span.cs, List.length_nil]
  | true =>
    have hs' := stockOk_iff.1 hs
    obtain ⟨fB, rfl⟩ := hB.ne (by omega)
    obtain ⟨fT, rfl⟩ := hT.ne (by omega)
    cases ho : obOk B.length T.length o with
    | false => simp (decide := true) (maxSteps := 4000000) only [go_sem, Nat.reduceAdd, Nat.reduceSub, Nat.reduceMul, Nat.reduceDiv, Nat.reduceMod, Nat.reduceLT, Nat.reduceLeDiff, Nat.reduceEqDiff, Nat.reduceBEq, Nat.reduceBNe, Nat.reduceGT, Int.reduceAdd, Int.reduceSub, Int.reduceMul, Int.reduceNeg, Int.reduceLT, Int.reduceLE, Int.reduceEq, Int.reduceNe, Int.reduceBEq, Int.reduceBNe, Int.reduceToNat, Int.reduceGT, Int.reduceGE, ↓reduceIte, decide_true, decide_false, eq_self, Nat.mul_one, Nat.zero_mul, Nat.one_mul, Int.le_refl, Nat.le_refl, Int.cast_ofNat_Int, Try.f10, Ob.t, Ob.cs, hlB, hlT, hs, ho, Span.t, Span.cs]
    | true => simp (decide := true) (maxSteps := 4000000) only [go_sem, Nat.reduceAdd, Nat.reduceSub, Nat.reduceMul, Nat.reduceDiv, Nat.reduceMod, Nat.reduceLT, Nat.reduceLeDiff, Nat.reduceEqDiff, Nat.reduceBEq, Nat.reduceBNe, Nat.reduceGT, Int.reduceAdd, Int.reduceSub, Int.reduceMul, Int.reduceNeg, Int.reduceLT, Int.reduceLE, Int.reduceEq, Int.reduceNe, Int.reduceBEq, Int.reduceBNe, Int.reduceToNat, Int.reduceGT, Int.reduceGE, ↓reduceIte, decide_true, decide_false, eq_self, Nat.mul_one, Nat.zero_mul, Nat.one_mul, Int.le_refl, Nat.le_refl, Int.cast_ofNat_Int, Try.f10, Ob.t, Ob.cs, hlB, hlT, hs, ho, Span.t, Span.cs, Sn.t]
theorem gGoodE_c {B : List Blank} {T : List Span} {sB sT : TV} (hB : IsRow Blank.cs sB B) (hT : IsRow Span.cs sT T) (hlB : B.length ≤ 5864062014806) (hlT : T.length ≤ 9000000000000) (w : Want) (o : Ob) : PCalls Try.prog 11 [.agg [sB, sT], w.t, o.t] (.tup [.bool (goodE B T w o).1, .int .i64 (goodE B T w o).2]) := by
  have u1 : unBlanks [] = some [] := rfl
  have u2 : unSpans [] = some [] := rfl
  refine pcalls_by Try.mixes spW2_ok (fn := Try.f11) Try.func11 rfl (by kernel_rfl) (by show 3 ≤ _; decide) ?_
  unfold goodE askedG
  cases hs : stockOk B T with
  | false => rcases hB with ⟨rfl, rfl⟩ | ⟨fB, rfl⟩ <;> rcases hT with ⟨rfl, rfl⟩ | ⟨fT, rfl⟩ <;> simp (decide := true) (maxSteps := 4000000) only [go_sem, Nat.reduceAdd, Nat.reduceSub, Nat.reduceMul, Nat.reduceDiv, Nat.reduceMod, Nat.reduceLT, Nat.reduceLeDiff, Nat.reduceEqDiff, Nat.reduceBEq, Nat.reduceBNe, Nat.reduceGT, Int.reduceAdd, Int.reduceSub, Int.reduceMul, Int.reduceNeg, Int.reduceLT, Int.reduceLE, Int.reduceEq, Int.reduceNe, Int.reduceBEq, Int.reduceBNe, Int.reduceToNat, Int.reduceGT, Int.reduceGE, ↓reduceIte, decide_true, decide_false, eq_self, Nat.mul_one, Nat.zero_mul, Nat.one_mul, Int.le_refl, Nat.le_refl, Int.cast_ofNat_Int, Try.f11, Ob.t, Ob.cs, Want.t, u1, u2, hlB, hlT, hs, List.length_nil]
  | true =>
    have hs' := stockOk_iff.1 hs
    obtain ⟨fB, rfl⟩ := hB.ne (by omega)
    obtain ⟨fT, rfl⟩ := hT.ne (by omega)
    cases hw : wantOk w with
    | false => simp (decide := true) (maxSteps := 4000000) only [go_sem, Nat.reduceAdd, Nat.reduceSub, Nat.reduceMul, Nat.reduceDiv, Nat.reduceMod, Nat.reduceLT, Nat.reduceLeDiff, Nat.reduceEqDiff, Nat.reduceBEq, Nat.reduceBNe, Nat.reduceGT, Int.reduceAdd, Int.reduceSub, Int.reduceMul, Int.reduceNeg, Int.reduceLT, Int.reduceLE, Int.reduceEq, Int.reduceNe, Int.reduceBEq, Int.reduceBNe, Int.reduceToNat, Int.reduceGT, Int.reduceGE, ↓reduceIte, decide_true, decide_false, eq_self, Nat.mul_one, Nat.zero_mul, Nat.one_mul, Int.le_refl, Nat.le_refl, Int.cast_ofNat_Int, Try.f11, Ob.t, Ob.cs, Want.t, hlB, hlT, hs, hw]
    | true =>
      cases ho : obOk B.length T.length o with
      | false => simp (decide := true) (maxSteps := 4000000) only [go_sem, Nat.reduceAdd, Nat.reduceSub, Nat.reduceMul, Nat.reduceDiv, Nat.reduceMod, Nat.reduceLT, Nat.reduceLeDiff, Nat.reduceEqDiff, Nat.reduceBEq, Nat.reduceBNe, Nat.reduceGT, Int.reduceAdd, Int.reduceSub, Int.reduceMul, Int.reduceNeg, Int.reduceLT, Int.reduceLE, Int.reduceEq, Int.reduceNe, Int.reduceBEq, Int.reduceBNe, Int.reduceToNat, Int.reduceGT, Int.reduceGE, ↓reduceIte, decide_true, decide_false, eq_self, Nat.mul_one, Nat.zero_mul, Nat.one_mul, Int.le_refl, Nat.le_refl, Int.cast_ofNat_Int, Try.f11, Ob.t, Ob.cs, Want.t, hlB, hlT, hs, hw, ho]
      | true =>
        have hb := spansP_bound hs ho
        have g1 : -4000000000000000000 ≤ (spansP B T o).c.lo ∧ (spansP B T o).c.lo ≤ 4000000000000000000 := by omega
        simp (decide := true) (maxSteps := 4000000) only [go_sem, Nat.reduceAdd, Nat.reduceSub, Nat.reduceMul, Nat.reduceDiv, Nat.reduceMod, Nat.reduceLT, Nat.reduceLeDiff, Nat.reduceEqDiff, Nat.reduceBEq, Nat.reduceBNe, Nat.reduceGT, Int.reduceAdd, Int.reduceSub, Int.reduceMul, Int.reduceNeg, Int.reduceLT, Int.reduceLE, Int.reduceEq, Int.reduceNe, Int.reduceBEq, Int.reduceBNe, Int.reduceToNat, Int.reduceGT, Int.reduceGE, ↓reduceIte, decide_true, decide_false, eq_self, Nat.mul_one, Nat.zero_mul, Nat.one_mul, Int.le_refl, Nat.le_refl, Int.cast_ofNat_Int, Try.f11, Ob.t, Ob.cs, Want.t, hlB, hlT, hs, hw, ho, Sn.t, g1]
theorem gSeen_c {B : List Blank} {T : List Span} {sB sT sI sC sK : TV} {ix co cu : List Int} (hB : IsRow Blank.cs sB B) (hT : IsRow Span.cs sT T) (hlB : B.length ≤ 5864062014806) (hlT : T.length ≤ 9000000000000) (hI : IsRow ic sI ix) (hC : IsRow ic sC co) (hK : IsRow ic sK cu) (o : Ob) :
    PCalls Try.prog 9 [.agg [sB, sT], o.t, .agg [sI, sC, sK]] (.tup [.int .i64 (seenP B T o ix co cu).1, .int .i64 (seenP B T o ix co cu).2.1, .int .i64 (seenP B T o ix co cu).2.2]) := by
  have u1 : unBlanks [] = some [] := rfl
  have u2 : unSpans [] = some [] := rfl
  refine pcalls_by Try.mixes spW2_ok (fn := Try.f9) Try.func9 rfl (by kernel_rfl) (by show 3 ≤ _; decide) ?_
  unfold seenP
  cases hs : stockOk B T with
  | false => rcases hB with ⟨rfl, rfl⟩ | ⟨fB, rfl⟩ <;> rcases hT with ⟨rfl, rfl⟩ | ⟨fT, rfl⟩ <;> simp (decide := true) (maxSteps := 4000000) only [go_sem, Nat.reduceAdd, Nat.reduceSub, Nat.reduceMul, Nat.reduceDiv, Nat.reduceMod, Nat.reduceLT, Nat.reduceLeDiff, Nat.reduceEqDiff, Nat.reduceBEq, Nat.reduceBNe, Nat.reduceGT, Int.reduceAdd, Int.reduceSub, Int.reduceMul, Int.reduceNeg, Int.reduceLT, Int.reduceLE, Int.reduceEq, Int.reduceNe, Int.reduceBEq, Int.reduceBNe, Int.reduceToNat, Int.reduceGT, Int.reduceGE, ↓reduceIte, decide_true, decide_false, eq_self, Nat.mul_one, Nat.zero_mul, Nat.one_mul, Int.le_refl, Nat.le_refl, Int.cast_ofNat_Int, Try.f9, Ob.t, Ob.cs, u1, u2, hlB, hlT, hs, List.length_nil]
  | true =>
    have hs' := stockOk_iff.1 hs
    obtain ⟨fB, rfl⟩ := hB.ne (by omega)
    obtain ⟨fT, rfl⟩ := hT.ne (by omega)
    cases ho : obOk B.length T.length o with
    | false => simp (decide := true) (maxSteps := 4000000) only [go_sem, Nat.reduceAdd, Nat.reduceSub, Nat.reduceMul, Nat.reduceDiv, Nat.reduceMod, Nat.reduceLT, Nat.reduceLeDiff, Nat.reduceEqDiff, Nat.reduceBEq, Nat.reduceBNe, Nat.reduceGT, Int.reduceAdd, Int.reduceSub, Int.reduceMul, Int.reduceNeg, Int.reduceLT, Int.reduceLE, Int.reduceEq, Int.reduceNe, Int.reduceBEq, Int.reduceBNe, Int.reduceToNat, Int.reduceGT, Int.reduceGE, ↓reduceIte, decide_true, decide_false, eq_self, Nat.mul_one, Nat.zero_mul, Nat.one_mul, Int.le_refl, Nat.le_refl, Int.cast_ofNat_Int, Try.f9, Ob.t, Ob.cs, hlB, hlT, hs, ho]
    | true =>
      have z0 : ((0 : Int) != (B.length : Int)) = true := bne_int_t (by omega)
      have z1 : ((0 : Int) != (T.length : Int)) = true := bne_int_t (by omega)
      by_cases hl1 : ix.length = B.length
      · obtain ⟨fI, rfl⟩ := hI.ne (by omega)
        have h1 : ((ix.length : Int) != (B.length : Int)) = false := bne_int_f (by omega)
        by_cases hl2 : co.length = B.length
        · obtain ⟨fC, rfl⟩ := hC.ne (by omega)
          have h2 : ((co.length : Int) != (B.length : Int)) = false := bne_int_f (by omega)
          by_cases hl3 : cu.length = T.length
          · obtain ⟨fK, rfl⟩ := hK.ne (by omega)
            have h3 : ((cu.length : Int) != (T.length : Int)) = false := bne_int_f (by omega)
            have hto : truthOk B T ix co cu = (tOkB B ix co B.length && tOkT T cu T.length) := by unfold truthOk; simp [hl1, hl2, hl3]
            rw [hto]
            simp (decide := true) (maxSteps := 4000000) only [go_sem, Nat.reduceAdd, Nat.reduceSub, Nat.reduceMul, Nat.reduceDiv, Nat.reduceMod, Nat.reduceLT, Nat.reduceLeDiff, Nat.reduceEqDiff, Nat.reduceBEq, Nat.reduceBNe, Nat.reduceGT, Int.reduceAdd, Int.reduceSub, Int.reduceMul, Int.reduceNeg, Int.reduceLT, Int.reduceLE, Int.reduceEq, Int.reduceNe, Int.reduceBEq, Int.reduceBNe, Int.reduceToNat, Int.reduceGT, Int.reduceGE, ↓reduceIte, decide_true, decide_false, eq_self, Nat.mul_one, Nat.zero_mul, Nat.one_mul, Int.le_refl, Nat.le_refl, Int.cast_ofNat_Int, Try.f9, Ob.t, Ob.cs, hlB, hlT, hs, ho, h1, h2, h3, ic_ints]
            refine pwpC_loopU (A := { k : Nat // k ≤ B.length }) [3, 4, 5, 56, 57] (fun k => [(58, .t (.int .i64 k.1)), (10, .t (.bool (tOkB B ix co k.1)))]) (fun _ => []) (fun k => B.length - k.1) ⟨0, by omega⟩ (by decide) (fun _ => by rfl) ?_ fun Q1 hQ1 ⟨k, hk⟩ I1 hI1 => ?_
            · simp (decide := true) (maxSteps := 4000000) only [go_sem, Nat.reduceAdd, Nat.reduceSub, Nat.reduceMul, Nat.reduceDiv, Nat.reduceMod, Nat.reduceLT, Nat.reduceLeDiff, Nat.reduceEqDiff, Nat.reduceBEq, Nat.reduceBNe, Nat.reduceGT, Int.reduceAdd, Int.reduceSub, Int.reduceMul, Int.reduceNeg, Int.reduceLT, Int.reduceLE, Int.reduceEq, Int.reduceNe, Int.reduceBEq, Int.reduceBNe, Int.reduceToNat, Int.reduceGT, Int.reduceGE, ↓reduceIte, decide_true, decide_false, eq_self, Nat.mul_one, Nat.zero_mul, Nat.one_mul, Int.le_refl, Nat.le_refl, Int.cast_ofNat_Int, tOkB, List.range_zero, List.all_nil]
              first | done | rfl
            · by_cases hlt : (k : Int) < B.length
              · obtain ⟨x, hx⟩ := get_lt hlt
                obtain ⟨v, hv⟩ := get_lt (l := ix) (k := k) (by omega)
                obtain ⟨u, hu⟩ := get_lt (l := co) (k := k) (by omega)
                have lv : (k : Int) < ix.length := by omega
                have lu : (k : Int) < co.length := by omega
                have dx := flat_at Blank.cs (n := 5) (fun _ => rfl) hx
                have dv := ints_at hv
                have du := ints_at hu
                rw [Nat.mul_one] at dv du
                have hc1 : IntKind.i64.wrap (k + 1) = ((k + 1 : Nat) : Int) := by rw [wrap_in (by omega) (by omega)]; omega
                have hsu := tOkB_succ B ix co k
                rw [nth_eq hv, nth_eq hu, blankAt_eq hx] at hsu
                cases hok : tOkB B ix co k <;> cases h4 : inB v x.i.lo x.i.hi <;> cases h5 : inB u x.c.lo x.c.hi <;> rw [hok, h4, h5] at hsu
                all_goals simp (decide := true) (maxSteps := 4000000) only [go_sem, Nat.reduceAdd, Nat.reduceSub, Nat.reduceMul, Nat.reduceDiv, Nat.reduceMod, Nat.reduceLT, Nat.reduceLeDiff, Nat.reduceEqDiff, Nat.reduceBEq, Nat.reduceBNe, Nat.reduceGT, Int.reduceAdd, Int.reduceSub, Int.reduceMul, Int.reduceNeg, Int.reduceLT, Int.reduceLE, Int.reduceEq, Int.reduceNe, Int.reduceBEq, Int.reduceBNe, Int.reduceToNat, Int.reduceGT, Int.reduceGE, ↓reduceIte, decide_true, decide_false, eq_self, Nat.mul_one, Nat.zero_mul, Nat.one_mul, Int.le_refl, Nat.le_refl, Int.cast_ofNat_Int, hlt, lv, lu, dx, Blank.cs, dv, du, hok, h4, h5, Int.toNat_natCast]
                all_goals refine hI1 _ ⟨k + 1, by omega⟩ (by simp only; omega) ?_
                all_goals simp (decide := true) (maxSteps := 4000000) only [go_sem, Nat.reduceAdd, Nat.reduceSub, Nat.reduceMul, Nat.reduceDiv, Nat.reduceMod, Nat.reduceLT, Nat.reduceLeDiff, Nat.reduceEqDiff, Nat.reduceBEq, Nat.reduceBNe, Nat.reduceGT, Int.reduceAdd, Int.reduceSub, Int.reduceMul, Int.reduceNeg, Int.reduceLT, Int.reduceLE, Int.reduceEq, Int.reduceNe, Int.reduceBEq, Int.reduceBNe, Int.reduceToNat, Int.reduceGT, Int.reduceGE, ↓reduceIte, decide_true, decide_false, eq_self, Nat.mul_one, Nat.zero_mul, Nat.one_mul, Int.le_refl, Nat.le_refl, Int.cast_ofNat_Int, hc1, hsu, Bool.and_true, Bool.and_false, Bool.and_self, Bool.false_and]
              · have hke : k = B.length := by omega
                subst hke
                simp (decide := true) (maxSteps := 4000000) only [go_sem, Nat.reduceAdd, Nat.reduceSub, Nat.reduceMul, Nat.reduceDiv, Nat.reduceMod, Nat.reduceLT, Nat.reduceLeDiff, Nat.reduceEqDiff, Nat.reduceBEq, Nat.reduceBNe, Nat.reduceGT, Int.reduceAdd, Int.reduceSub, Int.reduceMul, Int.reduceNeg, Int.reduceLT, Int.reduceLE, Int.reduceEq, Int.reduceNe, Int.reduceBEq, Int.reduceBNe, Int.reduceToNat, Int.reduceGT, Int.reduceGE, ↓reduceIte, decide_true, decide_false, eq_self, Nat.mul_one, Nat.zero_mul, Nat.one_mul, Int.le_refl, Nat.le_refl, Int.cast_ofNat_Int, hlt]
                refine hQ1 _ _ ?_
                simp (decide := true) (maxSteps := 4000000) only [go_sem, Nat.reduceAdd, Nat.reduceSub, Nat.reduceMul, Nat.reduceDiv, Nat.reduceMod, Nat.reduceLT, Nat.reduceLeDiff, Nat.reduceEqDiff, Nat.reduceBEq, Nat.reduceBNe, Nat.reduceGT, Int.reduceAdd, Int.reduceSub, Int.reduceMul, Int.reduceNeg, Int.reduceLT, Int.reduceLE, Int.reduceEq, Int.reduceNe, Int.reduceBEq, Int.reduceBNe, Int.reduceToNat, Int.reduceGT, Int.reduceGE, ↓reduceIte, decide_true, decide_false, eq_self, Nat.mul_one, Nat.zero_mul, Nat.one_mul, Int.le_refl, Nat.le_refl, Int.cast_ofNat_Int]
                refine pwpC_loopU (A := { k : Nat // k ≤ T.length }) [3, 4, 5, 92, 93] (fun k => [(94, .t (.int .i64 k.1)), (10, .t (.bool (tOkB B ix co B.length && tOkT T cu k.1)))]) (fun _ => []) (fun k => T.length - k.1) ⟨0, by omega⟩ (by decide) (fun _ => by rfl) ?_ fun Q2 hQ2 ⟨m, hm⟩ I2 hI2 => ?_
                · simp (decide := true) (maxSteps := 4000000) only [go_sem, Nat.reduceAdd, Nat.reduceSub, Nat.reduceMul, Nat.reduceDiv, Nat.reduceMod, Nat.reduceLT, Nat.reduceLeDiff, Nat.reduceEqDiff, Nat.reduceBEq, Nat.reduceBNe, Nat.reduceGT, Int.reduceAdd, Int.reduceSub, Int.reduceMul, Int.reduceNeg, Int.reduceLT, Int.reduceLE, Int.reduceEq, Int.reduceNe, Int.reduceBEq, Int.reduceBNe, Int.reduceToNat, Int.reduceGT, Int.reduceGE, ↓reduceIte, decide_true, decide_false, eq_self, Nat.mul_one, Nat.zero_mul, Nat.one_mul, Int.le_refl, Nat.le_refl, Int.cast_ofNat_Int, tOkT, List.range_zero, List.all_nil, Bool.and_true]
                  first | done | rfl
                · by_cases hlt2 : (m : Int) < T.length
                  · obtain ⟨y, hy⟩ := get_lt hlt2
                    obtain ⟨v, hv⟩ := get_lt (l := cu) (k := m) (by omega)
                    have lv : (m : Int) < cu.length := by omega
                    have dy := flat_at Span.cs (n := 2) (fun _ => rfl) hy
                    have dv := ints_at hv
                    rw [Nat.mul_one] at dv
                    have hc1 : IntKind.i64.wrap (m + 1) = ((m + 1 : Nat) : Int) := by rw [wrap_in (by omega) (by omega)]; omega
                    have hsu := tOkT_succ T cu m
                    rw [nth_eq hv, toolAt_eq hy] at hsu
                    cases hokB : tOkB B ix co B.length <;> cases hok : tOkT T cu m <;> cases h4 : inB v y.lo y.hi <;> rw [hok, h4] at hsu
                    all_goals simp (decide := true) (maxSteps := 4000000) only [go_sem, Nat.reduceAdd, Nat.reduceSub, Nat.reduceMul, Nat.reduceDiv, Nat.reduceMod, Nat.reduceLT, Nat.reduceLeDiff, Nat.reduceEqDiff, Nat.reduceBEq, Nat.reduceBNe, Nat.reduceGT, Int.reduceAdd, Int.reduceSub, Int.reduceMul, Int.reduceNeg, Int.reduceLT, Int.reduceLE, Int.reduceEq, Int.reduceNe, Int.reduceBEq, Int.reduceBNe, Int.reduceToNat, Int.reduceGT, Int.reduceGE, ↓reduceIte, decide_true, decide_false, eq_self, Nat.mul_one, Nat.zero_mul, Nat.one_mul, Int.le_refl, Nat.le_refl, Int.cast_ofNat_Int, hlt2, lv, dy, Span.cs, dv, hokB, hok, h4, Int.toNat_natCast, Bool.and_true, Bool.and_false, Bool.and_self, Bool.false_and]
                    all_goals refine hI2 _ ⟨m + 1, by omega⟩ (by simp only; omega) ?_
                    all_goals simp (decide := true) (maxSteps := 4000000) only [go_sem, Nat.reduceAdd, Nat.reduceSub, Nat.reduceMul, Nat.reduceDiv, Nat.reduceMod, Nat.reduceLT, Nat.reduceLeDiff, Nat.reduceEqDiff, Nat.reduceBEq, Nat.reduceBNe, Nat.reduceGT, Int.reduceAdd, Int.reduceSub, Int.reduceMul, Int.reduceNeg, Int.reduceLT, Int.reduceLE, Int.reduceEq, Int.reduceNe, Int.reduceBEq, Int.reduceBNe, Int.reduceToNat, Int.reduceGT, Int.reduceGE, ↓reduceIte, decide_true, decide_false, eq_self, Nat.mul_one, Nat.zero_mul, Nat.one_mul, Int.le_refl, Nat.le_refl, Int.cast_ofNat_Int, hc1, hsu, hokB, Bool.and_true, Bool.and_false, Bool.and_self, Bool.false_and]
                  · have hme : m = T.length := by omega
                    subst hme
                    simp (decide := true) (maxSteps := 4000000) only [go_sem, Nat.reduceAdd, Nat.reduceSub, Nat.reduceMul, Nat.reduceDiv, Nat.reduceMod, Nat.reduceLT, Nat.reduceLeDiff, Nat.reduceEqDiff, Nat.reduceBEq, Nat.reduceBNe, Nat.reduceGT, Int.reduceAdd, Int.reduceSub, Int.reduceMul, Int.reduceNeg, Int.reduceLT, Int.reduceLE, Int.reduceEq, Int.reduceNe, Int.reduceBEq, Int.reduceBNe, Int.reduceToNat, Int.reduceGT, Int.reduceGE, ↓reduceIte, decide_true, decide_false, eq_self, Nat.mul_one, Nat.zero_mul, Nat.one_mul, Int.le_refl, Nat.le_refl, Int.cast_ofNat_Int, hlt2]
                    refine hQ2 _ _ ?_
                    rcases (Bool.eq_false_or_eq_true (tOkB B ix co B.length && tOkT T cu T.length)).symm with hok | hok
                    · simp (decide := true) (maxSteps := 4000000) only [go_sem, Nat.reduceAdd, Nat.reduceSub, Nat.reduceMul, Nat.reduceDiv, Nat.reduceMod, Nat.reduceLT, Nat.reduceLeDiff, Nat.reduceEqDiff, Nat.reduceBEq, Nat.reduceBNe, Nat.reduceGT, Int.reduceAdd, Int.reduceSub, Int.reduceMul, Int.reduceNeg, Int.reduceLT, Int.reduceLE, Int.reduceEq, Int.reduceNe, Int.reduceBEq, Int.reduceBNe, Int.reduceToNat, Int.reduceGT, Int.reduceGE, ↓reduceIte, decide_true, decide_false, eq_self, Nat.mul_one, Nat.zero_mul, Nat.one_mul, Int.le_refl, Nat.le_refl, Int.cast_ofNat_Int, hok]
                    · obtain ⟨⟨p1, p2⟩, ⟨p3, p4⟩, p5, ⟨p6, p7⟩, ⟨p8, p9⟩, p10, p11⟩ := obOk_iff.1 ho
                      obtain ⟨of, os, oa, ob, oc⟩ := o
                      simp only at p1 p2 p3 p4 p5 p6 p7 p8 p9 p10 p11
                      obtain ⟨i, rfl⟩ := Int.eq_ofNat_of_zero_le p1
                      obtain ⟨j, rfl⟩ := Int.eq_ofNat_of_zero_le p3
                      obtain ⟨a, rfl⟩ := Int.eq_ofNat_of_zero_le p6
                      obtain ⟨b, rfl⟩ := Int.eq_ofNat_of_zero_le p8
                      obtain ⟨c, rfl⟩ := Int.eq_ofNat_of_zero_le p10
                      have hok2 := hok
                      rw [Bool.and_eq_true] at hok2
                      have r1 := tOkB_at hok2.1 (i := i) (by omega)
                      have r2 := tOkB_at hok2.1 (i := j) (by omega)
                      have r3 := tOkT_at hok2.2 (i := a) (by omega)
                      have r4 := tOkT_at hok2.2 (i := b) (by omega)
                      have r5 := tOkT_at hok2.2 (i := c) (by omega)
                      have z1 := blank_ok hs (i := (i : Int)) (by omega) (by omega)
                      have z2 := blank_ok hs (i := (j : Int)) (by omega) (by omega)
                      have z3 := tool_ok hs (i := (a : Int)) (by omega) (by omega)
                      have z4 := tool_ok hs (i := (b : Int)) (by omega) (by omega)
                      have z5 := tool_ok hs (i := (c : Int)) (by omega) (by omega)
                      have li : (i : Int) < ix.length := by omega
                      have lj : (j : Int) < ix.length := by omega
                      have li' : (i : Int) < co.length := by omega
                      have lj' : (j : Int) < co.length := by omega
                      have la : (a : Int) < cu.length := by omega
                      have lb : (b : Int) < cu.length := by omega
                      have lc : (c : Int) < cu.length := by omega
                      obtain ⟨n1, hn1⟩ := get_lt li
                      obtain ⟨n2, hn2⟩ := get_lt lj
                      obtain ⟨n3, hn3⟩ := get_lt li'
                      obtain ⟨n4, hn4⟩ := get_lt lj'
                      obtain ⟨f, hf⟩ := get_lt la
                      obtain ⟨m, hm⟩ := get_lt lb
                      obtain ⟨g, hg⟩ := get_lt lc
                      have d1 := ints_at hn1
                      have d2 := ints_at hn2
                      have d3 := ints_at hn3
                      have d4 := ints_at hn4
                      have d5 := ints_at hf
                      have d6 := ints_at hm
                      have d7 := ints_at hg
                      rw [Nat.mul_one] at d1 d2 d3 d4 d5 d6 d7
                      rw [nth_eq hn1, nth_eq hn3] at r1
                      rw [nth_eq hn2, nth_eq hn4] at r2
                      rw [nth_eq hf] at r3
                      rw [nth_eq hm] at r4
                      rw [nth_eq hg] at r5
                      have q1 := (pw_wrap (n1 := n1) (n2 := n2) (f := f) (m := m) (b := g) (by omega) (by omega) (by omega) (by omega) (by omega)).1
                      have q2 := (pw_wrap (n1 := n3) (n2 := n4) (f := f) (m := m) (b := g) (by omega) (by omega) (by omega) (by omega) (by omega)).1
                      simp (decide := true) (maxSteps := 4000000) only [go_sem, Nat.reduceAdd, Nat.reduceSub, Nat.reduceMul, Nat.reduceDiv, Nat.reduceMod, Nat.reduceLT, Nat.reduceLeDiff, Nat.reduceEqDiff, Nat.reduceBEq, Nat.reduceBNe, Nat.reduceGT, Int.reduceAdd, Int.reduceSub, Int.reduceMul, Int.reduceNeg, Int.reduceLT, Int.reduceLE, Int.reduceEq, Int.reduceNe, Int.reduceBEq, Int.reduceBNe, Int.reduceToNat, Int.reduceGT, Int.reduceGE, ↓reduceIte, decide_true, decide_false, eq_self, Nat.mul_one, Nat.zero_mul, Nat.one_mul, Int.le_refl, Nat.le_refl, Int.cast_ofNat_Int, hok, li, lj, li', lj', la, lb, lc, d1, d2, d3, d4, d5, d6, d7, Int.toNat_natCast, q1, q2, nth_eq hn1, nth_eq hn2, nth_eq hn3, nth_eq hn4, nth_eq hf, nth_eq hm, nth_eq hg]
          · have h3 : ((cu.length : Int) != (T.length : Int)) = true := bne_int_t (by omega)
            have hto : truthOk B T ix co cu = false := by unfold truthOk; simp [hl3]
            rcases hK with ⟨rfl, rfl⟩ | ⟨fK, rfl⟩ <;> simp (decide := true) (maxSteps := 4000000) only [go_sem, Nat.reduceAdd, Nat.reduceSub, Nat.reduceMul, Nat.reduceDiv, Nat.reduceMod, Nat.reduceLT, Nat.reduceLeDiff, Nat.reduceEqDiff, Nat.reduceBEq, Nat.reduceBNe, Nat.reduceGT, Int.reduceAdd, Int.reduceSub, Int.reduceMul, Int.reduceNeg, Int.reduceLT, Int.reduceLE, Int.reduceEq, Int.reduceNe, Int.reduceBEq, Int.reduceBNe, Int.reduceToNat, Int.reduceGT, Int.reduceGE, ↓reduceIte, decide_true, decide_false, eq_self, Nat.mul_one, Nat.zero_mul, Nat.one_mul, Int.le_refl, Nat.le_refl, Int.cast_ofNat_Int, Try.f9, Ob.t, Ob.cs, hlB, hlT, hs, ho, h1, h2, h3, z0, z1, hto]
        · have h2 : ((co.length : Int) != (B.length : Int)) = true := bne_int_t (by omega)
          have hto : truthOk B T ix co cu = false := by unfold truthOk; simp [hl2]
          rcases hC with ⟨rfl, rfl⟩ | ⟨fC, rfl⟩ <;> rcases hK with ⟨rfl, rfl⟩ | ⟨fK, rfl⟩ <;> simp (decide := true) (maxSteps := 4000000) only [go_sem, Nat.reduceAdd, Nat.reduceSub, Nat.reduceMul, Nat.reduceDiv, Nat.reduceMod, Nat.reduceLT, Nat.reduceLeDiff, Nat.reduceEqDiff, Nat.reduceBEq, Nat.reduceBNe, Nat.reduceGT, Int.reduceAdd, Int.reduceSub, Int.reduceMul, Int.reduceNeg, Int.reduceLT, Int.reduceLE, Int.reduceEq, Int.reduceNe, Int.reduceBEq, Int.reduceBNe, Int.reduceToNat, Int.reduceGT, Int.reduceGE, ↓reduceIte, decide_true, decide_false, eq_self, Nat.mul_one, Nat.zero_mul, Nat.one_mul, Int.le_refl, Nat.le_refl, Int.cast_ofNat_Int, Try.f9, Ob.t, Ob.cs, hlB, hlT, hs, ho, h1, h2, z0, z1, hto]
      · have h1 : ((ix.length : Int) != (B.length : Int)) = true := bne_int_t (by omega)
        have hto : truthOk B T ix co cu = false := by unfold truthOk; simp [hl1]
        rcases hI with ⟨rfl, rfl⟩ | ⟨fI, rfl⟩ <;> rcases hC with ⟨rfl, rfl⟩ | ⟨fC, rfl⟩ <;> rcases hK with ⟨rfl, rfl⟩ | ⟨fK, rfl⟩ <;> simp (decide := true) (maxSteps := 4000000) only [go_sem, Nat.reduceAdd, Nat.reduceSub, Nat.reduceMul, Nat.reduceDiv, Nat.reduceMod, Nat.reduceLT, Nat.reduceLeDiff, Nat.reduceEqDiff, Nat.reduceBEq, Nat.reduceBNe, Nat.reduceGT, Int.reduceAdd, Int.reduceSub, Int.reduceMul, Int.reduceNeg, Int.reduceLT, Int.reduceLE, Int.reduceEq, Int.reduceNe, Int.reduceBEq, Int.reduceBNe, Int.reduceToNat, Int.reduceGT, Int.reduceGE, ↓reduceIte, decide_true, decide_false, eq_self, Nat.mul_one, Nat.zero_mul, Nat.one_mul, Int.le_refl, Nat.le_refl, Int.cast_ofNat_Int, Try.f9, Ob.t, Ob.cs, hlB, hlT, hs, ho, h1, z0, z1, hto]
end Go.Proofs.Ytadkjjnnnkfalaa.Gl

/- Part Gz. -/
namespace Go.Oc.Gl
end Go.Oc.Gl
namespace Go.Proofs.Ytadkjjnnnkfalaa.Gl
end Go.Proofs.Ytadkjjnnnkfalaa.Gl
namespace Go.Oc.Gl
open Go Go.Pm
theorem flatR_len {α : Type} (f : Nat → List α) {k n : Nat} (h : k < n) : ((List.range k).flatMap f).length + (f k).length ≤ ((List.range n).flatMap f).length := by
  induction n with
  | zero => omega
  | succ n ih =>
    rw [List.range_succ, List.flatMap_append, List.length_append]
    by_cases hk : k = n
    · subst hk; simp
    · have := ih (by omega); omega
theorem flatR_get {α : Type} (f : Nat → List α) {k t : Nat} : ∀ {n : Nat}, k < n → t < (f k).length → ((List.range n).flatMap f)[((List.range k).flatMap f).length + t]? = (f k)[t]?
  | n + 1, hk, ht => by
    rw [List.range_succ, List.flatMap_append]
    by_cases hkn : k = n
    · subst hkn
      rw [List.getElem?_append_right (by omega)]
      simp
    · have h1 := flatR_len f (show k < n by omega)
      rw [List.getElem?_append_left (by omega)]
      exact flatR_get f (by omega) ht
/-- How many objectives come before. -/
def ob1 (n m i : Nat) : Nat := ((List.range i).flatMap (obs1 n m)).length
def ob2 (m i j : Nat) : Nat := ((List.range j).flatMap fun j => if i = j then [] else obs2 m i j).length
theorem ob1_zero (n m : Nat) : ob1 n m 0 = 0 := rfl
theorem ob2_zero (m i : Nat) : ob2 m i 0 = 0 := rfl
theorem ob1_succ (n m i : Nat) : ob1 n m (i + 1) = ob1 n m i + ob2 m i n := by
  unfold ob1 ob2 obs1; rw [List.range_succ, List.flatMap_append, List.length_append]; simp
theorem ob2_same (m i : Nat) : ob2 m i (i + 1) = ob2 m i i := by
  unfold ob2; rw [List.range_succ, List.flatMap_append]; simp
theorem obs2_len (m i j : Nat) : (obs2 m i j).length = m * m * m := by simp [obs2]
theorem ob2_succ {m i j : Nat} (h : i ≠ j) : ob2 m i (j + 1) = ob2 m i j + m * m * m := by
  unfold ob2; rw [List.range_succ, List.flatMap_append]; simp [h, obs2_len]
theorem obsA_len (n m : Nat) : (obsA n m).length = ob1 n m n := rfl
theorem obsA_at {n m i j t : Nat} (hi : i < n) (hj : j < n) (hne : i ≠ j) (ht : t < m * m * m) : (obsA n m)[ob1 n m i + (ob2 m i j + t)]? = some ⟨i, j, ((t / m / m : Nat) : Int), ((t / m % m : Nat) : Int), ((t % m : Nat) : Int)⟩ := by
  have h2 : t < (if i = j then [] else obs2 m i j).length := by rw [if_neg hne, obs2_len]; exact ht
  have h1 := flatR_len (fun j => if i = j then [] else obs2 m i j) hj
  have h3 : (if i = j then [] else obs2 m i j).length = m * m * m := by rw [if_neg hne, obs2_len]
  unfold obsA ob1
  rw [flatR_get (obs1 n m) hi]
  · unfold obs1 ob2
    rw [flatR_get (fun j => if i = j then [] else obs2 m i j) hj h2, if_neg hne]
    unfold obs2
    rw [List.getElem?_map, List.getElem?_range ht]; rfl
  · unfold ob2 obs1
    rw [h3] at h1
    omega
theorem ob2_le {n m i j : Nat} (hj : j ≤ n) : ob2 m i j ≤ ob2 m i n := by
  by_cases h : j = n
  · subst h; exact Nat.le_refl _
  · have := flatR_len (fun j => if i = j then [] else obs2 m i j) (show j < n by omega)
    unfold ob2; omega
theorem obsA_bound {n m i j t : Nat} (hi : i < n) (hj : j < n) (hne : i ≠ j) (ht : t < m * m * m) : ob1 n m i + (ob2 m i j + t) < (obsA n m).length := by
  have := obsA_at hi hj hne ht
  exact (List.getElem?_eq_some_iff.1 this).1
theorem obs_mem {n m : Nat} {o : Ob} (hm : 0 < m) (h : o ∈ obsA n m) : obOk n m o = true := by
  unfold obsA obs1 at h
  obtain ⟨i, hi, h⟩ := List.mem_flatMap.1 h
  obtain ⟨j, hj, h⟩ := List.mem_flatMap.1 h
  have hi := List.mem_range.1 hi
  have hj := List.mem_range.1 hj
  by_cases hij : i = j
  · rw [if_pos hij] at h; cases h
  · rw [if_neg hij] at h
    unfold obs2 at h
    obtain ⟨t, ht, rfl⟩ := List.mem_map.1 h
    have ht := List.mem_range.1 ht
    have e1 : t / m / m < m := by rw [Nat.div_div_eq_div_mul]; exact Nat.div_lt_of_lt_mul ht
    have e2 := Nat.mod_lt (t / m) hm
    have e3 := Nat.mod_lt t hm
    rw [obOk_iff]
    simp only
    generalize t / m / m = p at e1 ⊢
    generalize t / m % m = q at e2 ⊢
    generalize t % m = r at e3 ⊢
    omega
theorem wrapNat (n : Nat) (h : n ≤ 1000000) : IntKind.i64.wrap (n : Int) = n := wrap_in (by omega) (by omega)
end Go.Oc.Gl
namespace Go.Proofs.Ytadkjjnnnkfalaa.Gl
open Go.RowKit Go.Pm Go.Oc Go.Oc.Gl
set_option maxRecDepth 100000
set_option linter.unusedVariables false
set_option maxHeartbeats 4000000

def obV (n m : Nat) : List (List TV) := (obsA n m).map fun o => [o.t]
theorem gObs_c {B : List Blank} {T : List Span} (fB fT : Bool) (hs : stockOk B T = true) :
    Iter Try.prog 54 [.agg [.sl (B.flatMap Blank.cs) B.length fB, .sl (T.flatMap Span.cs) T.length fT]] [] (obV B.length T.length) := by
  have hs' := stockOk_iff.1 hs
  have hzl : (obV B.length T.length).length = (obsA B.length T.length).length := by simp [obV]
  refine iter_by Try.mixes noSpec_ok (fn := Try.f54) Try.func54 rfl (by kernel_rfl) rfl (by show 2 ≤ _; decide) ?_
  intro y M stop hm1 hm2 hm3
  have hmm : T.length * T.length * T.length ≤ 216 := by
    have a := Nat.mul_le_mul hs'.2.1.2 hs'.2.1.2
    have b := Nat.mul_le_mul a hs'.2.1.2
    omega
  have h36 : T.length * T.length ≤ 36 := Nat.mul_le_mul hs'.2.1.2 hs'.2.1.2
  have w1 : IntKind.i64.wrap ((T.length : Int) * T.length) = ((T.length * T.length : Nat) : Int) := by rw [← Int.natCast_mul]; exact wrap_in (by omega) (by omega)
  have w2 : IntKind.i64.wrap (((T.length * T.length : Nat) : Int) * T.length) = ((T.length * T.length * T.length : Nat) : Int) := by rw [← Int.natCast_mul]; exact wrap_in (by omega) (by omega)
  have hm0 : ¬ (T.length : Int) = 0 := by omega
  simp (decide := true) (maxSteps := 4000000) only [go_sem, Nat.reduceAdd, Nat.reduceSub, Nat.reduceMul, Nat.reduceDiv, Nat.reduceMod, Nat.reduceLT, Nat.reduceLeDiff, Nat.reduceEqDiff, Nat.reduceBEq, Nat.reduceBNe, Nat.reduceGT, Int.reduceAdd, Int.reduceSub, Int.reduceMul, Int.reduceNeg, Int.reduceLT, Int.reduceLE, Int.reduceEq, Int.reduceNe, Int.reduceBEq, Int.reduceBNe, Int.reduceToNat, Int.reduceGT, Int.reduceGE, ↓reduceIte, decide_true, decide_false, eq_self, Nat.mul_one, Nat.zero_mul, Nat.one_mul, Int.le_refl, Nat.le_refl, Int.cast_ofNat_Int, Try.f54]
  refine pwpC_loopU (A := { i : Nat // i ≤ B.length ∧ (stop = true → ob1 B.length T.length i < M) }) [1, 2, 4, 15] (fun i => [(16, .t (.int .i64 i.1))]) (fun i => [(0, .cnt (ob1 B.length T.length i.1))]) (fun i => B.length - i.1) ⟨0, by omega, fun h => by rw [ob1_zero]; exact hm3 h⟩ (by decide) (fun _ => by rfl) ?_ fun Q1 hQ1 ⟨i, hi, hst⟩ I1 hI1 => ?_
  · simp (decide := true) (maxSteps := 4000000) only [go_sem, Nat.reduceAdd, Nat.reduceSub, Nat.reduceMul, Nat.reduceDiv, Nat.reduceMod, Nat.reduceLT, Nat.reduceLeDiff, Nat.reduceEqDiff, Nat.reduceBEq, Nat.reduceBNe, Nat.reduceGT, Int.reduceAdd, Int.reduceSub, Int.reduceMul, Int.reduceNeg, Int.reduceLT, Int.reduceLE, Int.reduceEq, Int.reduceNe, Int.reduceBEq, Int.reduceBNe, Int.reduceToNat, Int.reduceGT, Int.reduceGE, ↓reduceIte, decide_true, decide_false, eq_self, Nat.mul_one, Nat.zero_mul, Nat.one_mul, Int.le_refl, Nat.le_refl, Int.cast_ofNat_Int, ob1_zero]
  · by_cases hlt : (i : Int) < B.length
    · have hi1 : IntKind.i64.wrap (i + 1) = ((i + 1 : Nat) : Int) := by rw [wrap_in (by omega) (by omega)]; omega
      simp (decide := true) (maxSteps := 4000000) only [go_sem, Nat.reduceAdd, Nat.reduceSub, Nat.reduceMul, Nat.reduceDiv, Nat.reduceMod, Nat.reduceLT, Nat.reduceLeDiff, Nat.reduceEqDiff, Nat.reduceBEq, Nat.reduceBNe, Nat.reduceGT, Int.reduceAdd, Int.reduceSub, Int.reduceMul, Int.reduceNeg, Int.reduceLT, Int.reduceLE, Int.reduceEq, Int.reduceNe, Int.reduceBEq, Int.reduceBNe, Int.reduceToNat, Int.reduceGT, Int.reduceGE, ↓reduceIte, decide_true, decide_false, eq_self, Nat.mul_one, Nat.zero_mul, Nat.one_mul, Int.le_refl, Nat.le_refl, Int.cast_ofNat_Int, hlt]
      refine pwpC_loopU (A := { j : Nat // j ≤ B.length ∧ (stop = true → ob1 B.length T.length i + ob2 T.length i j < M) }) [1, 2, 4, 5, 15, 16, 22] (fun j => [(23, .t (.int .i64 j.1))]) (fun j => [(0, .cnt (ob1 B.length T.length i + ob2 T.length i j.1))]) (fun j => B.length - j.1) ⟨0, by omega, fun h => by rw [ob2_zero]; exact hst h⟩ (by decide) (fun _ => by rfl) ?_ fun Q2 hQ2 ⟨j, hj, hst2⟩ I2 hI2 => ?_
      · simp (decide := true) (maxSteps := 4000000) only [go_sem, Nat.reduceAdd, Nat.reduceSub, Nat.reduceMul, Nat.reduceDiv, Nat.reduceMod, Nat.reduceLT, Nat.reduceLeDiff, Nat.reduceEqDiff, Nat.reduceBEq, Nat.reduceBNe, Nat.reduceGT, Int.reduceAdd, Int.reduceSub, Int.reduceMul, Int.reduceNeg, Int.reduceLT, Int.reduceLE, Int.reduceEq, Int.reduceNe, Int.reduceBEq, Int.reduceBNe, Int.reduceToNat, Int.reduceGT, Int.reduceGE, ↓reduceIte, decide_true, decide_false, eq_self, Nat.mul_one, Nat.zero_mul, Nat.one_mul, Int.le_refl, Nat.le_refl, Int.cast_ofNat_Int, ob2_zero, Nat.add_zero]
      · by_cases hlt2 : (j : Int) < B.length
        · have hj1 : IntKind.i64.wrap (j + 1) = ((j + 1 : Nat) : Int) := by rw [wrap_in (by omega) (by omega)]; omega
          by_cases hij : i = j
          · have hij' : ((i : Int) == (j : Int)) = true := beq_int_t (by omega)
            have hsm := ob2_same T.length i
            subst hij
            simp (decide := true) (maxSteps := 4000000) only [go_sem, Nat.reduceAdd, Nat.reduceSub, Nat.reduceMul, Nat.reduceDiv, Nat.reduceMod, Nat.reduceLT, Nat.reduceLeDiff, Nat.reduceEqDiff, Nat.reduceBEq, Nat.reduceBNe, Nat.reduceGT, Int.reduceAdd, Int.reduceSub, Int.reduceMul, Int.reduceNeg, Int.reduceLT, Int.reduceLE, Int.reduceEq, Int.reduceNe, Int.reduceBEq, Int.reduceBNe, Int.reduceToNat, Int.reduceGT, Int.reduceGE, ↓reduceIte, decide_true, decide_false, eq_self, Nat.mul_one, Nat.zero_mul, Nat.one_mul, Int.le_refl, Nat.le_refl, Int.cast_ofNat_Int, hlt2, hij', beq_self_eq_true]
            refine hI2 _ ⟨i + 1, by omega, fun h => by rw [hsm]; exact hst2 h⟩ (by simp only; omega) ?_
            simp (decide := true) (maxSteps := 4000000) only [go_sem, Nat.reduceAdd, Nat.reduceSub, Nat.reduceMul, Nat.reduceDiv, Nat.reduceMod, Nat.reduceLT, Nat.reduceLeDiff, Nat.reduceEqDiff, Nat.reduceBEq, Nat.reduceBNe, Nat.reduceGT, Int.reduceAdd, Int.reduceSub, Int.reduceMul, Int.reduceNeg, Int.reduceLT, Int.reduceLE, Int.reduceEq, Int.reduceNe, Int.reduceBEq, Int.reduceBNe, Int.reduceToNat, Int.reduceGT, Int.reduceGE, ↓reduceIte, decide_true, decide_false, eq_self, Nat.mul_one, Nat.zero_mul, Nat.one_mul, Int.le_refl, Nat.le_refl, Int.cast_ofNat_Int, hj1, hsm]
          · have hij' : ((i : Int) == (j : Int)) = false := beq_int_f (by omega)
            have hsu := ob2_succ (m := T.length) hij
            simp (decide := true) (maxSteps := 4000000) only [go_sem, Nat.reduceAdd, Nat.reduceSub, Nat.reduceMul, Nat.reduceDiv, Nat.reduceMod, Nat.reduceLT, Nat.reduceLeDiff, Nat.reduceEqDiff, Nat.reduceBEq, Nat.reduceBNe, Nat.reduceGT, Int.reduceAdd, Int.reduceSub, Int.reduceMul, Int.reduceNeg, Int.reduceLT, Int.reduceLE, Int.reduceEq, Int.reduceNe, Int.reduceBEq, Int.reduceBNe, Int.reduceToNat, Int.reduceGT, Int.reduceGE, ↓reduceIte, decide_true, decide_false, eq_self, Nat.mul_one, Nat.zero_mul, Nat.one_mul, Int.le_refl, Nat.le_refl, Int.cast_ofNat_Int, hlt2, hij', w1, w2]
            refine pwpC_loopU (A := { t : Nat // t ≤ T.length * T.length * T.length ∧ (stop = true → ob1 B.length T.length i + (ob2 T.length i j + t) < M) }) [1, 2, 4, 5, 6, 15, 16, 22, 23, 33] (fun t => [(34, .t (.int .i64 t.1))]) (fun t => [(0, .cnt (ob1 B.length T.length i + (ob2 T.length i j + t.1)))]) (fun t => T.length * T.length * T.length - t.1) ⟨0, by omega, fun h => hst2 h⟩ (by decide) (fun _ => by rfl) ?_ fun Q3 hQ3 ⟨t, ht, hst3⟩ I3 hI3 => ?_
            · simp (decide := true) (maxSteps := 4000000) only [go_sem, Nat.reduceAdd, Nat.reduceSub, Nat.reduceMul, Nat.reduceDiv, Nat.reduceMod, Nat.reduceLT, Nat.reduceLeDiff, Nat.reduceEqDiff, Nat.reduceBEq, Nat.reduceBNe, Nat.reduceGT, Int.reduceAdd, Int.reduceSub, Int.reduceMul, Int.reduceNeg, Int.reduceLT, Int.reduceLE, Int.reduceEq, Int.reduceNe, Int.reduceBEq, Int.reduceBNe, Int.reduceToNat, Int.reduceGT, Int.reduceGE, ↓reduceIte, decide_true, decide_false, eq_self, Nat.mul_one, Nat.zero_mul, Nat.one_mul, Int.le_refl, Nat.le_refl, Int.cast_ofNat_Int, Nat.add_zero]
            · by_cases hlt3 : (t : Int) < ((T.length * T.length * T.length : Nat) : Int)
              · have ht1 : IntKind.i64.wrap (t + 1) = ((t + 1 : Nat) : Int) := by rw [wrap_in (by omega) (by omega)]; omega
                have e0 : t / T.length ≤ t := Nat.div_le_self _ _
                have e0' : t / T.length / T.length ≤ t / T.length := Nat.div_le_self _ _
                have e1 : IntKind.i64.wrap ((t : Int).tdiv T.length) = ((t / T.length : Nat) : Int) := by rw [← Int.ofNat_tdiv]; exact wrapNat _ (Nat.le_trans e0 (by omega))
                have e2 : IntKind.i64.wrap (((t / T.length : Nat) : Int).tdiv T.length) = ((t / T.length / T.length : Nat) : Int) := by rw [← Int.ofNat_tdiv]; exact wrapNat _ (Nat.le_trans e0' (Nat.le_trans e0 (by omega)))
                have e3 : ((t / T.length : Nat) : Int).tmod T.length = ((t / T.length % T.length : Nat) : Int) := (Int.ofNat_tmod _ _).symm
                have e4 : (t : Int).tmod T.length = ((t % T.length : Nat) : Int) := (Int.ofNat_tmod _ _).symm
                have hat : (obV B.length T.length)[ob1 B.length T.length i + (ob2 T.length i j + t)]? = some [.agg [.int .i64 i, .int .i64 j, .int .i64 ((t / T.length / T.length : Nat) : Int), .int .i64 ((t / T.length % T.length : Nat) : Int), .int .i64 ((t % T.length : Nat) : Int)]] := by
                  unfold obV; rw [List.getElem?_map, obsA_at (by omega) (by omega) hij (by omega)]; rfl
                have hbd := obsA_bound (n := B.length) (m := T.length) (i := i) (j := j) (t := t) (by omega) (by omega) hij (by omega)
                have hcm : ob1 B.length T.length i + (ob2 T.length i j + t) < M := by
                  cases stop with
                  | true => exact hst3 rfl
                  | false => rw [hm2 rfl, hzl]; exact hbd
                have hcc : ob1 B.length T.length i + (ob2 T.length i j + t) + 1 = ob1 B.length T.length i + (ob2 T.length i j + (t + 1)) := by omega
                by_cases hs : (stop && ob1 B.length T.length i + (ob2 T.length i j + t) + 1 == M) = true
                · have hs' := hs
                  simp only [Bool.and_eq_true, beq_iff_eq] at hs'
                  simp (decide := true) (maxSteps := 4000000) only [go_sem, Nat.reduceAdd, Nat.reduceSub, Nat.reduceMul, Nat.reduceDiv, Nat.reduceMod, Nat.reduceLT, Nat.reduceLeDiff, Nat.reduceEqDiff, Nat.reduceBEq, Nat.reduceBNe, Nat.reduceGT, Int.reduceAdd, Int.reduceSub, Int.reduceMul, Int.reduceNeg, Int.reduceLT, Int.reduceLE, Int.reduceEq, Int.reduceNe, Int.reduceBEq, Int.reduceBNe, Int.reduceToNat, Int.reduceGT, Int.reduceGE, ↓reduceIte, decide_true, decide_false, eq_self, Nat.mul_one, Nat.zero_mul, Nat.one_mul, Int.le_refl, Nat.le_refl, Int.cast_ofNat_Int, hlt3, hm0, e1, e2, e3, e4, hat, hcm, hs]
                  refine hQ3 _ _ ?_
                  simp (decide := true) (maxSteps := 4000000) only [go_sem, Nat.reduceAdd, Nat.reduceSub, Nat.reduceMul, Nat.reduceDiv, Nat.reduceMod, Nat.reduceLT, Nat.reduceLeDiff, Nat.reduceEqDiff, Nat.reduceBEq, Nat.reduceBNe, Nat.reduceGT, Int.reduceAdd, Int.reduceSub, Int.reduceMul, Int.reduceNeg, Int.reduceLT, Int.reduceLE, Int.reduceEq, Int.reduceNe, Int.reduceBEq, Int.reduceBNe, Int.reduceToNat, Int.reduceGT, Int.reduceGE, ↓reduceIte, decide_true, decide_false, eq_self, Nat.mul_one, Nat.zero_mul, Nat.one_mul, Int.le_refl, Nat.le_refl, Int.cast_ofNat_Int, hs'.1, hs'.2]
                  try (refine hQ2 _ _ ?_)
                  try simp (decide := true) (maxSteps := 4000000) only [go_sem, Nat.reduceAdd, Nat.reduceSub, Nat.reduceMul, Nat.reduceDiv, Nat.reduceMod, Nat.reduceLT, Nat.reduceLeDiff, Nat.reduceEqDiff, Nat.reduceBEq, Nat.reduceBNe, Nat.reduceGT, Int.reduceAdd, Int.reduceSub, Int.reduceMul, Int.reduceNeg, Int.reduceLT, Int.reduceLE, Int.reduceEq, Int.reduceNe, Int.reduceBEq, Int.reduceBNe, Int.reduceToNat, Int.reduceGT, Int.reduceGE, ↓reduceIte, decide_true, decide_false, eq_self, Nat.mul_one, Nat.zero_mul, Nat.one_mul, Int.le_refl, Nat.le_refl, Int.cast_ofNat_Int, hs'.1, hs'.2]
                  try (refine hQ1 _ _ ?_)
                  try simp (decide := true) (maxSteps := 4000000) only [go_sem, Nat.reduceAdd, Nat.reduceSub, Nat.reduceMul, Nat.reduceDiv, Nat.reduceMod, Nat.reduceLT, Nat.reduceLeDiff, Nat.reduceEqDiff, Nat.reduceBEq, Nat.reduceBNe, Nat.reduceGT, Int.reduceAdd, Int.reduceSub, Int.reduceMul, Int.reduceNeg, Int.reduceLT, Int.reduceLE, Int.reduceEq, Int.reduceNe, Int.reduceBEq, Int.reduceBNe, Int.reduceToNat, Int.reduceGT, Int.reduceGE, ↓reduceIte, decide_true, decide_false, eq_self, Nat.mul_one, Nat.zero_mul, Nat.one_mul, Int.le_refl, Nat.le_refl, Int.cast_ofNat_Int, hs'.1, hs'.2]
                · have hs0 : (stop && ob1 B.length T.length i + (ob2 T.length i j + t) + 1 == M) = false := by simpa using hs
                  simp (decide := true) (maxSteps := 4000000) only [go_sem, Nat.reduceAdd, Nat.reduceSub, Nat.reduceMul, Nat.reduceDiv, Nat.reduceMod, Nat.reduceLT, Nat.reduceLeDiff, Nat.reduceEqDiff, Nat.reduceBEq, Nat.reduceBNe, Nat.reduceGT, Int.reduceAdd, Int.reduceSub, Int.reduceMul, Int.reduceNeg, Int.reduceLT, Int.reduceLE, Int.reduceEq, Int.reduceNe, Int.reduceBEq, Int.reduceBNe, Int.reduceToNat, Int.reduceGT, Int.reduceGE, ↓reduceIte, decide_true, decide_false, eq_self, Nat.mul_one, Nat.zero_mul, Nat.one_mul, Int.le_refl, Nat.le_refl, Int.cast_ofNat_Int, hlt3, hm0, e1, e2, e3, e4, hat, hcm, hs0]
                  refine hI3 _ ⟨t + 1, by omega, fun h => ?_⟩ (by simp only; omega) ?_
                  · subst h; simp at hs0; omega
                  · simp (decide := true) (maxSteps := 4000000) only [go_sem, Nat.reduceAdd, Nat.reduceSub, Nat.reduceMul, Nat.reduceDiv, Nat.reduceMod, Nat.reduceLT, Nat.reduceLeDiff, Nat.reduceEqDiff, Nat.reduceBEq, Nat.reduceBNe, Nat.reduceGT, Int.reduceAdd, Int.reduceSub, Int.reduceMul, Int.reduceNeg, Int.reduceLT, Int.reduceLE, Int.reduceEq, Int.reduceNe, Int.reduceBEq, Int.reduceBNe, Int.reduceToNat, Int.reduceGT, Int.reduceGE, ↓reduceIte, decide_true, decide_false, eq_self, Nat.mul_one, Nat.zero_mul, Nat.one_mul, Int.le_refl, Nat.le_refl, Int.cast_ofNat_Int, ht1, hcc]
              · have hte : t = T.length * T.length * T.length := by omega
                simp (decide := true) (maxSteps := 4000000) only [go_sem, Nat.reduceAdd, Nat.reduceSub, Nat.reduceMul, Nat.reduceDiv, Nat.reduceMod, Nat.reduceLT, Nat.reduceLeDiff, Nat.reduceEqDiff, Nat.reduceBEq, Nat.reduceBNe, Nat.reduceGT, Int.reduceAdd, Int.reduceSub, Int.reduceMul, Int.reduceNeg, Int.reduceLT, Int.reduceLE, Int.reduceEq, Int.reduceNe, Int.reduceBEq, Int.reduceBNe, Int.reduceToNat, Int.reduceGT, Int.reduceGE, ↓reduceIte, decide_true, decide_false, eq_self, Nat.mul_one, Nat.zero_mul, Nat.one_mul, Int.le_refl, Nat.le_refl, Int.cast_ofNat_Int, hlt3]
                refine hQ3 _ _ ?_
                simp (decide := true) (maxSteps := 4000000) only [go_sem, Nat.reduceAdd, Nat.reduceSub, Nat.reduceMul, Nat.reduceDiv, Nat.reduceMod, Nat.reduceLT, Nat.reduceLeDiff, Nat.reduceEqDiff, Nat.reduceBEq, Nat.reduceBNe, Nat.reduceGT, Int.reduceAdd, Int.reduceSub, Int.reduceMul, Int.reduceNeg, Int.reduceLT, Int.reduceLE, Int.reduceEq, Int.reduceNe, Int.reduceBEq, Int.reduceBNe, Int.reduceToNat, Int.reduceGT, Int.reduceGE, ↓reduceIte, decide_true, decide_false, eq_self, Nat.mul_one, Nat.zero_mul, Nat.one_mul, Int.le_refl, Nat.le_refl, Int.cast_ofNat_Int]
                refine hI2 _ ⟨j + 1, by omega, fun h => by have := hst3 h; rw [hsu]; omega⟩ (by simp only; omega) ?_
                simp (decide := true) (maxSteps := 4000000) only [go_sem, Nat.reduceAdd, Nat.reduceSub, Nat.reduceMul, Nat.reduceDiv, Nat.reduceMod, Nat.reduceLT, Nat.reduceLeDiff, Nat.reduceEqDiff, Nat.reduceBEq, Nat.reduceBNe, Nat.reduceGT, Int.reduceAdd, Int.reduceSub, Int.reduceMul, Int.reduceNeg, Int.reduceLT, Int.reduceLE, Int.reduceEq, Int.reduceNe, Int.reduceBEq, Int.reduceBNe, Int.reduceToNat, Int.reduceGT, Int.reduceGE, ↓reduceIte, decide_true, decide_false, eq_self, Nat.mul_one, Nat.zero_mul, Nat.one_mul, Int.le_refl, Nat.le_refl, Int.cast_ofNat_Int, hj1, hsu, ← hte]
        · have hje : j = B.length := by omega
          subst hje
          have hsu := ob1_succ B.length T.length i
          simp (decide := true) (maxSteps := 4000000) only [go_sem, Nat.reduceAdd, Nat.reduceSub, Nat.reduceMul, Nat.reduceDiv, Nat.reduceMod, Nat.reduceLT, Nat.reduceLeDiff, Nat.reduceEqDiff, Nat.reduceBEq, Nat.reduceBNe, Nat.reduceGT, Int.reduceAdd, Int.reduceSub, Int.reduceMul, Int.reduceNeg, Int.reduceLT, Int.reduceLE, Int.reduceEq, Int.reduceNe, Int.reduceBEq, Int.reduceBNe, Int.reduceToNat, Int.reduceGT, Int.reduceGE, ↓reduceIte, decide_true, decide_false, eq_self, Nat.mul_one, Nat.zero_mul, Nat.one_mul, Int.le_refl, Nat.le_refl, Int.cast_ofNat_Int, hlt2]
          refine hQ2 _ _ ?_
          simp (decide := true) (maxSteps := 4000000) only [go_sem, Nat.reduceAdd, Nat.reduceSub, Nat.reduceMul, Nat.reduceDiv, Nat.reduceMod, Nat.reduceLT, Nat.reduceLeDiff, Nat.reduceEqDiff, Nat.reduceBEq, Nat.reduceBNe, Nat.reduceGT, Int.reduceAdd, Int.reduceSub, Int.reduceMul, Int.reduceNeg, Int.reduceLT, Int.reduceLE, Int.reduceEq, Int.reduceNe, Int.reduceBEq, Int.reduceBNe, Int.reduceToNat, Int.reduceGT, Int.reduceGE, ↓reduceIte, decide_true, decide_false, eq_self, Nat.mul_one, Nat.zero_mul, Nat.one_mul, Int.le_refl, Nat.le_refl, Int.cast_ofNat_Int]
          refine hI1 _ ⟨i + 1, by omega, fun h => by rw [hsu]; exact hst2 h⟩ (by simp only; omega) ?_
          simp (decide := true) (maxSteps := 4000000) only [go_sem, Nat.reduceAdd, Nat.reduceSub, Nat.reduceMul, Nat.reduceDiv, Nat.reduceMod, Nat.reduceLT, Nat.reduceLeDiff, Nat.reduceEqDiff, Nat.reduceBEq, Nat.reduceBNe, Nat.reduceGT, Int.reduceAdd, Int.reduceSub, Int.reduceMul, Int.reduceNeg, Int.reduceLT, Int.reduceLE, Int.reduceEq, Int.reduceNe, Int.reduceBEq, Int.reduceBNe, Int.reduceToNat, Int.reduceGT, Int.reduceGE, ↓reduceIte, decide_true, decide_false, eq_self, Nat.mul_one, Nat.zero_mul, Nat.one_mul, Int.le_refl, Nat.le_refl, Int.cast_ofNat_Int, hi1, hsu]
    · have hie : i = B.length := by omega
      subst hie
      simp (decide := true) (maxSteps := 4000000) only [go_sem, Nat.reduceAdd, Nat.reduceSub, Nat.reduceMul, Nat.reduceDiv, Nat.reduceMod, Nat.reduceLT, Nat.reduceLeDiff, Nat.reduceEqDiff, Nat.reduceBEq, Nat.reduceBNe, Nat.reduceGT, Int.reduceAdd, Int.reduceSub, Int.reduceMul, Int.reduceNeg, Int.reduceLT, Int.reduceLE, Int.reduceEq, Int.reduceNe, Int.reduceBEq, Int.reduceBNe, Int.reduceToNat, Int.reduceGT, Int.reduceGE, ↓reduceIte, decide_true, decide_false, eq_self, Nat.mul_one, Nat.zero_mul, Nat.one_mul, Int.le_refl, Nat.le_refl, Int.cast_ofNat_Int, hlt]
      refine hQ1 _ _ ?_
      simp (decide := true) (maxSteps := 4000000) only [go_sem, Nat.reduceAdd, Nat.reduceSub, Nat.reduceMul, Nat.reduceDiv, Nat.reduceMod, Nat.reduceLT, Nat.reduceLeDiff, Nat.reduceEqDiff, Nat.reduceBEq, Nat.reduceBNe, Nat.reduceGT, Int.reduceAdd, Int.reduceSub, Int.reduceMul, Int.reduceNeg, Int.reduceLT, Int.reduceLE, Int.reduceEq, Int.reduceNe, Int.reduceBEq, Int.reduceBNe, Int.reduceToNat, Int.reduceGT, Int.reduceGE, ↓reduceIte, decide_true, decide_false, eq_self, Nat.mul_one, Nat.zero_mul, Nat.one_mul, Int.le_refl, Nat.le_refl, Int.cast_ofNat_Int]
      cases stop with
      | false => rw [hm2 rfl, hzl, obsA_len]
      | true => have := hst rfl; have h := obsA_len B.length T.length; omega
end Go.Proofs.Ytadkjjnnnkfalaa.Gl

/- Part Ga. -/
namespace Go.Oc.Gl
end Go.Oc.Gl
namespace Go.Proofs.Ytadkjjnnnkfalaa.Gl
end Go.Proofs.Ytadkjjnnnkfalaa.Gl
namespace Go.Oc.Gl
open Go Go.Pm
/-- What is known of the objectives so far. -/
noncomputable def knStep (B : List Blank) (T : List Span) (w : Want) (f : TV → Option TV) (o : Ob) : TV → Option TV := if goodB (spansP B T o) w then updT f o.t (spansP B T o).t else f
noncomputable def knTo (B : List Blank) (T : List Span) (w : Want) (k : Nat) : TV → Option TV := ((obsA B.length T.length).take k).foldl (knStep B T w) fun _ => none
theorem knTo_succ {B : List Blank} {T : List Span} (w : Want) {k : Nat} {o : Ob} (h : (obsA B.length T.length)[k]? = some o) : knTo B T w (k + 1) = knStep B T w (knTo B T w k) o := by
  unfold knTo; rw [take_snoc h, List.foldl_append]; rfl
theorem bstTo_succ {B : List Blank} {T : List Span} (w : Want) {k : Nat} {o : Ob} (h : (obsA B.length T.length)[k]? = some o) : bstTo B T w (k + 1) = bstStep B T w (bstTo B T w k) o := by
  unfold bstTo; rw [take_snoc h, List.foldl_append]; rfl
theorem updT_same (f : TV → Option TV) (k x : TV) : updT f k x k = some x := by unfold updT; rw [if_pos rfl]
end Go.Oc.Gl
namespace Go.Proofs.Ytadkjjnnnkfalaa.Gl
open Go.RowKit Go.Pm Go.Oc Go.Oc.Gl
set_option maxRecDepth 100000
set_option linter.unusedVariables false
set_option maxHeartbeats 4000000

theorem gOf_c {B : List Blank} (fB : Bool) (sT : TV) (t : Nat) (ht : t = 130) (f : TV → Option TV) (o : Ob) (x : Sn) (hf : f o.t = some x.t) (h1 : 0 ≤ o.f ∧ o.f < B.length) (h2 : 0 ≤ o.s ∧ o.s < B.length) :
    HCalls Try.prog 52 [.t o.t, .ptr 0 0, .ptr 1 0] (getL [.box [.mapr 2], .box [.t (.sl (B.flatMap Blank.cs) B.length fB), .t sT], .mp t f])
      (.t (.tup [.int .i64 (max x.c.hi (IntKind.i64.wrap (0 - x.c.lo))), .int .i64 (IntKind.i64.wrap (priceO B o))])) (getL [.box [.mapr 2], .box [.t (.sl (B.flatMap Blank.cs) B.length fB), .t sT], .mp t f]) := by
  subst ht
  obtain ⟨of, os, oa, ob, oc⟩ := o
  simp only at h1 h2
  obtain ⟨i, rfl⟩ := Int.eq_ofNat_of_zero_le h1.1
  obtain ⟨j, rfl⟩ := Int.eq_ofNat_of_zero_le h2.1
  obtain ⟨p, hp⟩ := get_lt h1.2
  obtain ⟨q, hq⟩ := get_lt h2.2
  have d1 := flat_at Blank.cs (n := 5) (fun _ => rfl) hp
  have d2 := flat_at Blank.cs (n := 5) (fun _ => rfl) hq
  have e : priceO B ⟨i, j, oa, ob, oc⟩ = p.pr + q.pr := by unfold priceO; simp only [blankAt_eq hp, blankAt_eq hq]
  unfold Ob.t Ob.cs at hf
  simp only at hf
  refine hcalls_by Try.mixes spW2_ok (fn := Try.f52) Try.func52 rfl (by kernel_rfl) (by show 3 ≤ _; decide) ?_
  simp (decide := true) (maxSteps := 4000000) only [go_sem, Nat.reduceAdd, Nat.reduceSub, Nat.reduceMul, Nat.reduceDiv, Nat.reduceMod, Nat.reduceLT, Nat.reduceLeDiff, Nat.reduceEqDiff, Nat.reduceBEq, Nat.reduceBNe, Nat.reduceGT, Int.reduceAdd, Int.reduceSub, Int.reduceMul, Int.reduceNeg, Int.reduceLT, Int.reduceLE, Int.reduceEq, Int.reduceNe, Int.reduceBEq, Int.reduceBNe, Int.reduceToNat, Int.reduceGT, Int.reduceGE, ↓reduceIte, decide_true, decide_false, eq_self, Nat.mul_one, Nat.zero_mul, Nat.one_mul, Int.le_refl, Nat.le_refl, Int.cast_ofNat_Int, Try.f52, Ob.t, Ob.cs, hf, Sn.t, Option.isSome_some, Option.getD_some, h1.2, h2.2, d1, d2, Blank.cs, Int.toNat_natCast, e]
  exact ⟨_, rfl, rfl⟩
noncomputable def gOf : List PV → List PO → Option (PV × List PO)
  | [.t (.agg [.int .i64 f, .int .i64 s, .int .i64 a, .int .i64 b, .int .i64 c]), .ptr 0 0, .ptr 1 0], [.box [.mapr 2], .box [.t (.sl cB n fB), .t sT], .mp t F] =>
    match unBlanks cB, F (.agg [.int .i64 f, .int .i64 s, .int .i64 a, .int .i64 b, .int .i64 c]) with
    | some B, some (.agg [.int .i64 p, .int .i64 q, .int .i64 x, .int .i64 y]) => if n = B.length ∧ t = 130 ∧ (0 ≤ f ∧ f < B.length) ∧ 0 ≤ s ∧ s < B.length then
        some (.t (.tup [.int .i64 (max y (IntKind.i64.wrap (0 - x))), .int .i64 (IntKind.i64.wrap (priceO B ⟨f, s, a, b, c⟩))]), [.box [.mapr 2], .box [.t (.sl cB n fB), .t sT], .mp t F]) else none
    | _, _ => none
  | _, _ => none
theorem gOf_ok : ∀ xs hl r hl', gOf xs hl = some (r, hl') → HCalls Try.prog 52 xs (getL hl) r (getL hl') := by
  intro xs hl r hl' h
  unfold gOf at h
  split at h
  · split at h
    · rename_i B p q x y hB hF
      split at h
      · rename_i hc
        simp only [Option.some.injEq, Prod.mk.injEq] at h
        obtain ⟨rfl, rfl⟩ := h
        obtain ⟨rfl, h1, h2, h3⟩ := hc
        rw [unBlanks_some hB]
        exact gOf_c _ _ _ h1 _ ⟨_, _, _, _, _⟩ ⟨⟨p, q⟩, ⟨x, y⟩⟩ hF h2 h3
      · cases h
    · cases h
  · cases h
attribute [go_sem] gOf
noncomputable def spA1 : Pm.Spec := spW2.oneH 52 gOf
@[go_sem] theorem spA1_p (f : FuncId) (xs : List TV) : spA1.p f xs = Pm.Spec.p (spW2.oneH 52 gOf) f xs := rfl
@[go_sem] theorem spA1_h (f : FuncId) (ps : List PV) (hl : List PO) : spA1.h f ps hl = Pm.Spec.h (spW2.oneH 52 gOf) f ps hl := rfl
@[go_sem] theorem spA1_y (Y : Pm.YS) (f : FuncId) (ps : List PV) (hl : List PO) : spA1.y Y f ps hl = Pm.Spec.y (spW2.oneH 52 gOf) Y f ps hl := rfl
@[go_sem] theorem spA1_fz (f : FuncId) : spA1.fz f = Pm.Spec.fz (spW2.oneH 52 gOf) f := rfl
@[go_sem] theorem spA1_fr (f : FuncId) : spA1.fr f = Pm.Spec.fr (spW2.oneH 52 gOf) f := rfl
@[go_sem] theorem spA1_yf (f : FuncId) : spA1.yf f = Pm.Spec.yf (spW2.oneH 52 gOf) f := rfl
@[go_sem] theorem spA1_mu (t : TypeId) : spA1.mu t = Pm.Spec.mu (spW2.oneH 52 gOf) t := rfl
@[go_sem] theorem spA1_nf (t : TypeId) : spA1.nf t = Pm.Spec.nf (spW2.oneH 52 gOf) t := rfl
theorem spA1_ok : SpecOk Try.prog spA1 := Spec.oneH_ok gOf_ok spW2_ok
theorem gBest_c {B : List Blank} {T : List Span} {sB sT : TV} (hB : IsRow Blank.cs sB B) (hT : IsRow Span.cs sT T) (hlB : B.length ≤ 5864062014806) (hlT : T.length ≤ 9000000000000) (w : Want) : PCalls Try.prog 12 [.agg [sB, sT], w.t] (.tup [(bestP B T w).1.t, .int .i64 (bestP B T w).2.1, .int .i64 (bestP B T w).2.2]) := by
  have u1 : unBlanks [] = some [] := rfl
  have u2 : unSpans [] = some [] := rfl
  refine pcalls_by Try.mixes spA1_ok (fn := Try.f12) Try.func12 rfl (by kernel_rfl) (by show 2 ≤ _; decide) ?_
  unfold bestP
  cases hs : stockOk B T with
  | false => rcases hB with ⟨rfl, rfl⟩ | ⟨fB, rfl⟩ <;> rcases hT with ⟨rfl, rfl⟩ | ⟨fT, rfl⟩ <;> simp (decide := true) (maxSteps := 4000000) only [go_sem, Nat.reduceAdd, Nat.reduceSub, Nat.reduceMul, Nat.reduceDiv, Nat.reduceMod, Nat.reduceLT, Nat.reduceLeDiff, Nat.reduceEqDiff, Nat.reduceBEq, Nat.reduceBNe, Nat.reduceGT, Int.reduceAdd, Int.reduceSub, Int.reduceMul, Int.reduceNeg, Int.reduceLT, Int.reduceLE, Int.reduceEq, Int.reduceNe, Int.reduceBEq, Int.reduceBNe, Int.reduceToNat, Int.reduceGT, Int.reduceGE, ↓reduceIte, decide_true, decide_false, eq_self, Nat.mul_one, Nat.zero_mul, Nat.one_mul, Int.le_refl, Nat.le_refl, Int.cast_ofNat_Int, Try.f12, Want.t, u1, u2, hlB, hlT, hs, List.length_nil, bst0, Ob.t, Ob.cs]
  | true =>
    have hs' := stockOk_iff.1 hs
    obtain ⟨fB, rfl⟩ := hB.ne (by omega)
    obtain ⟨fT, rfl⟩ := hT.ne (by omega)
    cases hw : wantOk w with
    | false => simp (decide := true) (maxSteps := 4000000) only [go_sem, Nat.reduceAdd, Nat.reduceSub, Nat.reduceMul, Nat.reduceDiv, Nat.reduceMod, Nat.reduceLT, Nat.reduceLeDiff, Nat.reduceEqDiff, Nat.reduceBEq, Nat.reduceBNe, Nat.reduceGT, Int.reduceAdd, Int.reduceSub, Int.reduceMul, Int.reduceNeg, Int.reduceLT, Int.reduceLE, Int.reduceEq, Int.reduceNe, Int.reduceBEq, Int.reduceBNe, Int.reduceToNat, Int.reduceGT, Int.reduceGE, ↓reduceIte, decide_true, decide_false, eq_self, Nat.mul_one, Nat.zero_mul, Nat.one_mul, Int.le_refl, Nat.le_refl, Int.cast_ofNat_Int, Try.f12, Want.t, hlB, hlT, hs, hw, bst0, Ob.t, Ob.cs]
    | true =>
      have hN : (obsA B.length T.length).foldl (bstStep B T w) bst0 = bstTo B T w (obV B.length T.length).length := by
        unfold bstTo obV; rw [List.length_map, List.take_length]
      rw [hN]
      simp (decide := true) (maxSteps := 4000000) only [go_sem, Nat.reduceAdd, Nat.reduceSub, Nat.reduceMul, Nat.reduceDiv, Nat.reduceMod, Nat.reduceLT, Nat.reduceLeDiff, Nat.reduceEqDiff, Nat.reduceBEq, Nat.reduceBNe, Nat.reduceGT, Int.reduceAdd, Int.reduceSub, Int.reduceMul, Int.reduceNeg, Int.reduceLT, Int.reduceLE, Int.reduceEq, Int.reduceNe, Int.reduceBEq, Int.reduceBNe, Int.reduceToNat, Int.reduceGT, Int.reduceGE, ↓reduceIte, decide_true, decide_false, eq_self, Nat.mul_one, Nat.zero_mul, Nat.one_mul, Int.le_refl, Nat.le_refl, Int.cast_ofNat_Int, Try.f12, Want.t, hlB, hlT, hs, hw]
      refine pwpC_range rfl 54 [.agg [.sl (B.flatMap Blank.cs) B.length fB, .sl (T.flatMap Span.cs) T.length fT]] [] (obV B.length T.length)
        [(33, .t (.fn 54 [.agg [.sl (B.flatMap Blank.cs) B.length fB, .sl (T.flatMap Span.cs) T.length fT]] [])), (2, .ptr 0 0), (3, .ptr 1 0), (4, .ptr 2 0), (5, .ptr 3 0), (8, .ptr 4 0), (9, .ptr 6 0), (10, .ptr 7 0), (11, .ptr 8 0), (12, .ptr 9 0)]
        (fun i => [.box [.t (.sl (B.flatMap Blank.cs) B.length fB), .t (.sl (T.flatMap Span.cs) T.length fT)], .box [.t (.int .i64 w.p.lo), .t (.int .i64 w.p.hi), .t (.int .i64 w.c)], .box ((bstTo B T w i).o.cs.map .t), .box [.t (.int .i64 (bstTo B T w i).n)], .box [.t (.sl (B.flatMap Blank.cs) B.length fB), .t (.sl (T.flatMap Span.cs) T.length fT)], .mp 130 (knTo B T w i), .box [.mapr 5], .box [.fnc 52 [6, 4]], .box [.t (.int .i64 (bstTo B T w i).p)], .box [.t (.bool (bstTo B T w i).is)]]) 10 ?_ (by rfl) (by rfl) ?_ (gObs_c fB fT hs) ?_ (fun i => by simp) (fun i => rfl) (fun i x hx => ?_) ?_
      · simp (decide := true) (maxSteps := 4000000) only [go_sem, Nat.reduceAdd, Nat.reduceSub, Nat.reduceMul, Nat.reduceDiv, Nat.reduceMod, Nat.reduceLT, Nat.reduceLeDiff, Nat.reduceEqDiff, Nat.reduceBEq, Nat.reduceBNe, Nat.reduceGT, Int.reduceAdd, Int.reduceSub, Int.reduceMul, Int.reduceNeg, Int.reduceLT, Int.reduceLE, Int.reduceEq, Int.reduceNe, Int.reduceBEq, Int.reduceBNe, Int.reduceToNat, Int.reduceGT, Int.reduceGE, ↓reduceIte, decide_true, decide_false, eq_self, Nat.mul_one, Nat.zero_mul, Nat.one_mul, Int.le_refl, Nat.le_refl, Int.cast_ofNat_Int, Ob.cs, bstTo, knTo, bst0, List.take_zero, List.foldl_nil]
        first | done | rfl
      · simp (decide := true) (maxSteps := 4000000) only [go_sem, Nat.reduceAdd, Nat.reduceSub, Nat.reduceMul, Nat.reduceDiv, Nat.reduceMod, Nat.reduceLT, Nat.reduceLeDiff, Nat.reduceEqDiff, Nat.reduceBEq, Nat.reduceBNe, Nat.reduceGT, Int.reduceAdd, Int.reduceSub, Int.reduceMul, Int.reduceNeg, Int.reduceLT, Int.reduceLE, Int.reduceEq, Int.reduceNe, Int.reduceBEq, Int.reduceBNe, Int.reduceToNat, Int.reduceGT, Int.reduceGE, ↓reduceIte, decide_true, decide_false, eq_self, Nat.mul_one, Nat.zero_mul, Nat.one_mul, Int.le_refl, Nat.le_refl, Int.cast_ofNat_Int]
      · intro x hx
        unfold obV at hx
        obtain ⟨y, _, rfl⟩ := List.mem_map.1 hx
        rfl
      · unfold obV at hx
        simp only [List.getElem?_map, Option.map_eq_some_iff] at hx
        obtain ⟨o, ho, rfl⟩ := hx
        have hob := obs_mem (by omega) (List.mem_of_getElem? ho)
        have ho' := obOk_iff.1 hob
        have hb := spansP_bound hs hob
        have hbs := bstTo_succ w ho
        have hks := knTo_succ w ho
        have z1 := blank_ok hs ho'.1.1 (by omega)
        have z2 := blank_ok hs ho'.2.1.1 (by omega)
        have w1 : IntKind.i64.wrap (0 - (spansP B T o).c.lo) = -(spansP B T o).c.lo := by rw [wrap_in (by omega) (by omega)]; omega
        have w2 : IntKind.i64.wrap (priceO B o) = priceO B o := by unfold priceO; exact wrap_in (by omega) (by omega)
        have g1 : -4000000000000000000 ≤ (spansP B T o).c.lo ∧ (spansP B T o).c.lo ≤ 4000000000000000000 := by omega
        have g2 : (0 ≤ o.f ∧ o.f < B.length) ∧ 0 ≤ o.s ∧ o.s < B.length := by omega
        unfold bstStep at hbs
        unfold knStep at hks
        cases hg : goodB (spansP B T o) w with
        | false =>
          rw [hg] at hbs hks
          simp only [Bool.false_eq_true, if_false] at hbs hks
          simp (decide := true) (maxSteps := 4000000) only [go_sem, Nat.reduceAdd, Nat.reduceSub, Nat.reduceMul, Nat.reduceDiv, Nat.reduceMod, Nat.reduceLT, Nat.reduceLeDiff, Nat.reduceEqDiff, Nat.reduceBEq, Nat.reduceBNe, Nat.reduceGT, Int.reduceAdd, Int.reduceSub, Int.reduceMul, Int.reduceNeg, Int.reduceLT, Int.reduceLE, Int.reduceEq, Int.reduceNe, Int.reduceBEq, Int.reduceBNe, Int.reduceToNat, Int.reduceGT, Int.reduceGE, ↓reduceIte, decide_true, decide_false, eq_self, Nat.mul_one, Nat.zero_mul, Nat.one_mul, Int.le_refl, Nat.le_refl, Int.cast_ofNat_Int, Ob.t, Ob.cs, Sn.t, hs, hob, g1, hg, hbs, hks]
        | true =>
          rw [hg] at hbs hks
          simp only [if_true] at hbs hks
          obtain ⟨n, hn⟩ : ∃ n, worstS (spansP B T o).c = n := ⟨_, rfl⟩
          have hn' : max (spansP B T o).c.hi (-(spansP B T o).c.lo) = n := hn
          rw [hn] at hbs
          generalize hX : bstTo B T w i = X at hbs ⊢
          obtain ⟨Xo, Xn, Xp, Xi⟩ := X
          cases Xi with
          | false =>
            rw [if_pos (.inl rfl)] at hbs
            simp (decide := true) (maxSteps := 4000000) only [go_sem, Nat.reduceAdd, Nat.reduceSub, Nat.reduceMul, Nat.reduceDiv, Nat.reduceMod, Nat.reduceLT, Nat.reduceLeDiff, Nat.reduceEqDiff, Nat.reduceBEq, Nat.reduceBNe, Nat.reduceGT, Int.reduceAdd, Int.reduceSub, Int.reduceMul, Int.reduceNeg, Int.reduceLT, Int.reduceLE, Int.reduceEq, Int.reduceNe, Int.reduceBEq, Int.reduceBNe, Int.reduceToNat, Int.reduceGT, Int.reduceGE, ↓reduceIte, decide_true, decide_false, eq_self, Nat.mul_one, Nat.zero_mul, Nat.one_mul, Int.le_refl, Nat.le_refl, Int.cast_ofNat_Int, Ob.t, Ob.cs, Sn.t, hs, hob, g1, g2, hg, updT_same, w1, w2, hn', hbs, hks]
          | true =>
            by_cases c1 : n < Xn
            · rw [if_pos (.inr (.inl c1))] at hbs
              simp (decide := true) (maxSteps := 4000000) only [go_sem, Nat.reduceAdd, Nat.reduceSub, Nat.reduceMul, Nat.reduceDiv, Nat.reduceMod, Nat.reduceLT, Nat.reduceLeDiff, Nat.reduceEqDiff, Nat.reduceBEq, Nat.reduceBNe, Nat.reduceGT, Int.reduceAdd, Int.reduceSub, Int.reduceMul, Int.reduceNeg, Int.reduceLT, Int.reduceLE, Int.reduceEq, Int.reduceNe, Int.reduceBEq, Int.reduceBNe, Int.reduceToNat, Int.reduceGT, Int.reduceGE, ↓reduceIte, decide_true, decide_false, eq_self, Nat.mul_one, Nat.zero_mul, Nat.one_mul, Int.le_refl, Nat.le_refl, Int.cast_ofNat_Int, Ob.t, Ob.cs, Sn.t, hs, hob, g1, g2, hg, updT_same, w1, w2, hn', c1, hbs, hks]
            · by_cases c2 : n = Xn
              · have c2' : (n == Xn) = true := beq_int_t c2
                by_cases c3 : priceO B o < Xp
                · rw [if_pos (.inr (.inr ⟨c2, c3⟩))] at hbs
                  simp (decide := true) (maxSteps := 4000000) only [go_sem, Nat.reduceAdd, Nat.reduceSub, Nat.reduceMul, Nat.reduceDiv, Nat.reduceMod, Nat.reduceLT, Nat.reduceLeDiff, Nat.reduceEqDiff, Nat.reduceBEq, Nat.reduceBNe, Nat.reduceGT, Int.reduceAdd, Int.reduceSub, Int.reduceMul, Int.reduceNeg, Int.reduceLT, Int.reduceLE, Int.reduceEq, Int.reduceNe, Int.reduceBEq, Int.reduceBNe, Int.reduceToNat, Int.reduceGT, Int.reduceGE, ↓reduceIte, decide_true, decide_false, eq_self, Nat.mul_one, Nat.zero_mul, Nat.one_mul, Int.le_refl, Nat.le_refl, Int.cast_ofNat_Int, Ob.t, Ob.cs, Sn.t, hs, hob, g1, g2, hg, updT_same, w1, w2, hn', c1, c2', c3, hbs, hks]
                · rw [if_neg (by rintro (h | h | h); cases h; exact c1 h; exact c3 h.2)] at hbs
                  simp (decide := true) (maxSteps := 4000000) only [go_sem, Nat.reduceAdd, Nat.reduceSub, Nat.reduceMul, Nat.reduceDiv, Nat.reduceMod, Nat.reduceLT, Nat.reduceLeDiff, Nat.reduceEqDiff, Nat.reduceBEq, Nat.reduceBNe, Nat.reduceGT, Int.reduceAdd, Int.reduceSub, Int.reduceMul, Int.reduceNeg, Int.reduceLT, Int.reduceLE, Int.reduceEq, Int.reduceNe, Int.reduceBEq, Int.reduceBNe, Int.reduceToNat, Int.reduceGT, Int.reduceGE, ↓reduceIte, decide_true, decide_false, eq_self, Nat.mul_one, Nat.zero_mul, Nat.one_mul, Int.le_refl, Nat.le_refl, Int.cast_ofNat_Int, Ob.t, Ob.cs, Sn.t, hs, hob, g1, g2, hg, updT_same, w1, w2, hn', c1, c2', c3, hbs, hks]
              · have c2' : (n == Xn) = false := beq_int_f c2
                rw [if_neg (by rintro (h | h | h); cases h; exact c1 h; exact c2 h.1)] at hbs
                simp (decide := true) (maxSteps := 4000000) only [go_sem, Nat.reduceAdd, Nat.reduceSub, Nat.reduceMul, Nat.reduceDiv, Nat.reduceMod, Nat.reduceLT, Nat.reduceLeDiff, Nat.reduceEqDiff, Nat.reduceBEq, Nat.reduceBNe, Nat.reduceGT, Int.reduceAdd, Int.reduceSub, Int.reduceMul, Int.reduceNeg, Int.reduceLT, Int.reduceLE, Int.reduceEq, Int.reduceNe, Int.reduceBEq, Int.reduceBNe, Int.reduceToNat, Int.reduceGT, Int.reduceGE, ↓reduceIte, decide_true, decide_false, eq_self, Nat.mul_one, Nat.zero_mul, Nat.one_mul, Int.le_refl, Nat.le_refl, Int.cast_ofNat_Int, Ob.t, Ob.cs, Sn.t, hs, hob, g1, g2, hg, updT_same, w1, w2, hn', c1, c2', hbs, hks]
      · generalize bstTo B T w (obV B.length T.length).length = X
        obtain ⟨Xo, Xn, Xp, Xi⟩ := X
        cases Xi <;> simp (decide := true) (maxSteps := 4000000) only [go_sem, Nat.reduceAdd, Nat.reduceSub, Nat.reduceMul, Nat.reduceDiv, Nat.reduceMod, Nat.reduceLT, Nat.reduceLeDiff, Nat.reduceEqDiff, Nat.reduceBEq, Nat.reduceBNe, Nat.reduceGT, Int.reduceAdd, Int.reduceSub, Int.reduceMul, Int.reduceNeg, Int.reduceLT, Int.reduceLE, Int.reduceEq, Int.reduceNe, Int.reduceBEq, Int.reduceBNe, Int.reduceToNat, Int.reduceGT, Int.reduceGE, ↓reduceIte, decide_true, decide_false, eq_self, Nat.mul_one, Nat.zero_mul, Nat.one_mul, Int.le_refl, Nat.le_refl, Int.cast_ofNat_Int, Ob.t, Ob.cs, bst0]
end Go.Proofs.Ytadkjjnnnkfalaa.Gl

/- Part Gk. -/
namespace Go.Oc.Gl
end Go.Oc.Gl
namespace Go.Proofs.Ytadkjjnnnkfalaa.Gl
end Go.Proofs.Ytadkjjnnnkfalaa.Gl
namespace Go.Oc.Gl
open Go Go.Pm

/-- Which blanks are used. -/
structure Tk where
  b0 : Bool
  b1 : Bool
  b2 : Bool
  b3 : Bool
  b4 : Bool
  b5 : Bool
  b6 : Bool
  b7 : Bool
  deriving DecidableEq
def Tk.none : Tk := ⟨false, false, false, false, false, false, false, false⟩
def Tk.at (T : Tk) : Nat → Bool
  | 0 => T.b0 | 1 => T.b1 | 2 => T.b2 | 3 => T.b3 | 4 => T.b4 | 5 => T.b5 | 6 => T.b6 | 7 => T.b7 | _ => false
def Tk.set (T : Tk) (i : Nat) : Tk := ⟨T.b0 || i == 0, T.b1 || i == 1, T.b2 || i == 2, T.b3 || i == 3, T.b4 || i == 4, T.b5 || i == 5, T.b6 || i == 6, T.b7 || i == 7⟩
theorem lt8 {i : Nat} (h : i < 8) : i = 0 ∨ i = 1 ∨ i = 2 ∨ i = 3 ∨ i = 4 ∨ i = 5 ∨ i = 6 ∨ i = 7 := by omega
theorem Tk.at_set (T : Tk) {i : Nat} (hi : i < 8) (j : Nat) : (T.set i).at j = (T.at j || i == j) := by
  by_cases hj : j < 8
  · rcases lt8 hj with rfl | rfl | rfl | rfl | rfl | rfl | rfl | rfl <;> rfl
  · have : (i == j) = false := by simp; omega
    rw [this]
    unfold Tk.at
    split <;> first | omega | rfl
def Tk.cs (T : Tk) : List TV := [.bool T.b0, .bool T.b1, .bool T.b2, .bool T.b3, .bool T.b4, .bool T.b5, .bool T.b6, .bool T.b7]
theorem tk_get (T : Tk) {i : Nat} (h : i < 8) : ([.t (.bool T.b0), .t (.bool T.b1), .t (.bool T.b2), .t (.bool T.b3), .t (.bool T.b4), .t (.bool T.b5), .t (.bool T.b6), .t (.bool T.b7)] : List PV)[i]? = some (.t (.bool (T.at i))) := by
  rcases lt8 h with rfl | rfl | rfl | rfl | rfl | rfl | rfl | rfl <;> rfl
theorem tk_set (T : Tk) {i : Nat} (h : i < 8) : List.take i ([.t (.bool T.b0), .t (.bool T.b1), .t (.bool T.b2), .t (.bool T.b3), .t (.bool T.b4), .t (.bool T.b5), .t (.bool T.b6), .t (.bool T.b7)] : List PV) ++ [.t (.bool true)] ++ List.drop i ([.t (.bool T.b1), .t (.bool T.b2), .t (.bool T.b3), .t (.bool T.b4), .t (.bool T.b5), .t (.bool T.b6), .t (.bool T.b7)] : List PV) = [.t (.bool (T.set i).b0), .t (.bool (T.set i).b1), .t (.bool (T.set i).b2), .t (.bool (T.set i).b3), .t (.bool (T.set i).b4), .t (.bool (T.set i).b5), .t (.bool (T.set i).b6), .t (.bool (T.set i).b7)] := by
  rcases lt8 h with rfl | rfl | rfl | rfl | rfl | rfl | rfl | rfl <;> simp [Tk.set]

/-- The two blanks of an objective, the first one with the lesser number. -/
def keyO (o : Ob) : TV := .agg [.int .i64 (min o.f o.s), .int .i64 (max o.f o.s)]
noncomputable def ofStep (B : List Blank) (T : List Span) (w : Want) (f : TV → Option TV) (o : Ob) : TV → Option TV := if (f (keyO o)).isSome then f else if goodB (spansP B T o) w then updT f (keyO o) o.t else f
noncomputable def ofTo (B : List Blank) (T : List Span) (w : Want) (k : Nat) : TV → Option TV := ((obsA B.length T.length).take k).foldl (ofStep B T w) fun _ => none
noncomputable def ofA (B : List Blank) (T : List Span) (w : Want) : TV → Option TV := (obsA B.length T.length).foldl (ofStep B T w) fun _ => none
theorem ofTo_succ {B : List Blank} {T : List Span} (w : Want) {k : Nat} {o : Ob} (h : (obsA B.length T.length)[k]? = some o) : ofTo B T w (k + 1) = ofStep B T w (ofTo B T w k) o := by
  unfold ofTo; rw [take_snoc h, List.foldl_append]; rfl
def isFor (B : List Blank) (T : List Span) (w : Want) (i j : Int) (o : Ob) : Bool := (min o.f o.s == i) && (max o.f o.s == j) && goodB (spansP B T o) w
/-- The objective that is kept for two blanks. -/
def ofO (B : List Blank) (T : List Span) (w : Want) (i j : Int) : Option Ob := (obsA B.length T.length).find? (isFor B T w i j)
theorem of_fold (B : List Blank) (T : List Span) (w : Want) (i j : Int) : ∀ (L : List Ob) (f : TV → Option TV), (L.foldl (ofStep B T w) f) (.agg [.int .i64 i, .int .i64 j]) = match f (.agg [.int .i64 i, .int .i64 j]) with
    | some x => some x
    | none => (L.find? (isFor B T w i j)).map Ob.t
  | [], f => by
    simp only [List.foldl_nil, List.find?_nil, Option.map_none]
    cases f (.agg [.int .i64 i, .int .i64 j]) <;> rfl
  | o :: L, f => by
    rw [List.foldl_cons, of_fold B T w i j L]
    by_cases hk : keyO o = .agg [.int .i64 i, .int .i64 j]
    · have h1 : (min o.f o.s == i) = true ∧ (max o.f o.s == j) = true := by
        unfold keyO at hk
        simp only [TV.agg.injEq, List.cons.injEq, TV.int.injEq, true_and, and_true] at hk
        exact ⟨by simpa using hk.1, by simpa using hk.2⟩
      unfold ofStep
      rw [hk]
      cases hf : f (.agg [.int .i64 i, .int .i64 j]) with
      | some x => simp [hf]
      | none =>
        simp only [Option.isSome_none, Bool.false_eq_true, if_false]
        cases hg : goodB (spansP B T o) w with
        | true =>
          have : isFor B T w i j o = true := by unfold isFor; rw [h1.1, h1.2, hg]; rfl
          simp only [if_true, updT_same]
          rw [List.find?_cons_of_pos this]; rfl
        | false =>
          have : ¬ isFor B T w i j o = true := by unfold isFor; rw [hg]; simp
          simp only [Bool.false_eq_true, if_false, hf]
          rw [List.find?_cons_of_neg this]
    · have h1 : ¬ isFor B T w i j o = true := by
        intro h
        unfold isFor at h
        simp only [Bool.and_eq_true, beq_iff_eq] at h
        apply hk
        unfold keyO
        rw [h.1.1, h.1.2]
      have h2 : ofStep B T w f o (.agg [.int .i64 i, .int .i64 j]) = f (.agg [.int .i64 i, .int .i64 j]) := by
        unfold ofStep
        split
        · rfl
        · split
          · unfold updT; rw [if_neg (fun e => hk e.symm)]
          · rfl
      rw [h2, List.find?_cons_of_neg h1]
theorem ofA_look (B : List Blank) (T : List Span) (w : Want) (i j : Int) : ofA B T w (.agg [.int .i64 i, .int .i64 j]) = (ofO B T w i j).map Ob.t := by
  unfold ofA; rw [of_fold]; rfl
theorem ofA_to (B : List Blank) (T : List Span) (w : Want) : ofTo B T w (obsA B.length T.length).length = ofA B T w := by
  unfold ofTo ofA; rw [List.take_length]

/-- The most objectives at once, of blanks that are not used, from one on. -/
def joinStep (rec : Tk → List Ob) (E : Int → Int → Option Ob) (U : Tk) (fr : Nat) (best : List Ob) (k : Nat) : List Ob := match E fr k with
  | none => best
  | some o => if U.at k then best else if (rec ((U.set fr).set k)).length + 1 > best.length then o :: rec ((U.set fr).set k) else best
def joinP (E : Int → Int → Option Ob) (n : Nat) : Nat → Tk → List Ob
  | 0, _ => []
  | d + 1, U => if U.at (n - (d + 1)) then joinP E n d U else (List.range' (n - (d + 1) + 1) d).foldl (joinStep (joinP E n d) E U (n - (d + 1))) (joinP E n d U)
def joinTo (E : Int → Int → Option Ob) (n d : Nat) (U : Tk) (j : Nat) : List Ob := (List.range' (n - (d + 1) + 1) j).foldl (joinStep (joinP E n d) E U (n - (d + 1))) (joinP E n d U)
theorem joinTo_succ (E : Int → Int → Option Ob) (n d : Nat) (U : Tk) (j : Nat) : joinTo E n d U (j + 1) = joinStep (joinP E n d) E U (n - (d + 1)) (joinTo E n d U j) (n - (d + 1) + 1 + j) := by
  unfold joinTo
  rw [List.range'_1_concat, List.foldl_append]; rfl
theorem joinP_len (E : Int → Int → Option Ob) (n : Nat) : ∀ (d : Nat) (U : Tk), (joinP E n d U).length ≤ d
  | 0, _ => Nat.le_refl _
  | d + 1, U => by
    have ih := joinP_len E n d
    simp only [joinP]
    split
    · have := ih U; omega
    · have key : ∀ (l : List Nat) (b : List Ob), b.length ≤ d + 1 → (l.foldl (joinStep (joinP E n d) E U (n - (d + 1))) b).length ≤ d + 1 := by
        intro l
        induction l with
        | nil => intro b h; exact h
        | cons k l ihl =>
          intro b h
          rw [List.foldl_cons]
          refine ihl _ ?_
          unfold joinStep
          split
          · exact h
          · split
            · exact h
            · split
              · have := ih ((U.set (n - (d + 1))).set k); simp only [List.length_cons]; omega
              · exact h
      exact key _ _ (by have := ih U; omega)
theorem joinTo_len (E : Int → Int → Option Ob) (n d : Nat) (U : Tk) : ∀ j, (joinTo E n d U j).length ≤ d + 1
  | 0 => by have := joinP_len E n d U; unfold joinTo; simp only [List.range'_zero, List.foldl_nil]; omega
  | j + 1 => by
    rw [joinTo_succ]
    have ih := joinTo_len E n d U j
    unfold joinStep
    split
    · exact ih
    · split
      · exact ih
      · split
        · have := joinP_len E n d ((U.set (n - (d + 1))).set (n - (d + 1) + 1 + j)); simp only [List.length_cons]; omega
        · exact ih
/-- A row of objectives, as it is handed back. -/
def rowJ (l : List Ob) : TV := if l.length = 0 then .nilSl else .sl (l.flatMap Ob.cs) l.length (l.length == 1)
def mostP (B : List Blank) (T : List Span) (w : Want) : List Ob × Int := if stockOk B T = false then ([], 40) else if wantOk w = false then ([], 43) else (joinP (ofO B T w) B.length B.length Tk.none, 0)
end Go.Oc.Gl

/- Part Gb. -/
namespace Go.Oc.Gl
end Go.Oc.Gl
namespace Go.Proofs.Ytadkjjnnnkfalaa.Gl
end Go.Proofs.Ytadkjjnnnkfalaa.Gl
namespace Go.Proofs.Ytadkjjnnnkfalaa.Gl
open Go.RowKit Go.Pm Go.Oc Go.Oc.Gl
set_option maxRecDepth 100000
set_option linter.unusedVariables false
set_option maxHeartbeats 4000000

theorem allO_t : ∀ xs : List TV, allO (List.map PV.toT (List.map PV.t xs)) = some xs
  | [] => rfl
  | x :: xs => by simp only [List.map_cons, allO, PV.toT, allO_t xs, Option.map_some]
theorem tk_ne2 {U : Tk} {fr : Nat} (k : Nat) (hfr : fr < 8) (h : U.at fr = false) : (((U.set fr).set k).b0 == U.b0 && (((U.set fr).set k).b1 == U.b1 && (((U.set fr).set k).b2 == U.b2 && (((U.set fr).set k).b3 == U.b3 && (((U.set fr).set k).b4 == U.b4 && (((U.set fr).set k).b5 == U.b5 && (((U.set fr).set k).b6 == U.b6 && ((U.set fr).set k).b7 == U.b7))))))) = false := by
  rcases lt8 hfr with rfl | rfl | rfl | rfl | rfl | rfl | rfl | rfl <;> simp only [Tk.at] at h <;> simp [Tk.set, h]
open Classical in
noncomputable def gJ (B : List Blank) (sT : TV) (E : Int → Int → Option Ob) (d : Nat) : List PV → List PO → Option (PV × List PO)
  | [.t (.agg [.bool b0, .bool b1, .bool b2, .bool b3, .bool b4, .bool b5, .bool b6, .bool b7]), .t (.int .i64 fr), .ptr 0 0, .ptr 1 0, .ptr 2 0], [.box [.t (.sl cB n fB), .t sT'], .box [.fnc 55 [0, 1, 2]], .box [.mapr 3], .mp t f] =>
    if (cB = B.flatMap Blank.cs ∧ n = B.length ∧ sT' = sT) ∧ t = 137 ∧ fr = ((B.length - d : Nat) : Int) ∧ ∀ i j : Int, f (.agg [.int .i64 i, .int .i64 j]) = (E i j).map Ob.t then
      some (.t (rowJ (joinP E B.length d ⟨b0, b1, b2, b3, b4, b5, b6, b7⟩)), [.box [.t (.sl cB n fB), .t sT'], .box [.fnc 55 [0, 1, 2]], .box [.mapr 3], .mp t f])
    else none
  | _, _ => none
/-- The contract, as far as so many. -/
def JoinC (B : List Blank) (sT : TV) (E : Int → Int → Option Ob) (d : Nat) : Prop := ∀ (U : Tk) (fB : Bool) (f : TV → Option TV), (∀ i j : Int, f (.agg [.int .i64 i, .int .i64 j]) = (E i j).map Ob.t) →
  HCalls Try.prog 55 [.t (.agg (Tk.cs U)), .t (.int .i64 ((B.length - d : Nat) : Int)), .ptr 0 0, .ptr 1 0, .ptr 2 0] (getL [.box [.t (.sl (B.flatMap Blank.cs) B.length fB), .t sT], .box [.fnc 55 [0, 1, 2]], .box [.mapr 3], .mp 137 f])
    (.t (rowJ (joinP E B.length d U))) (getL [.box [.t (.sl (B.flatMap Blank.cs) B.length fB), .t sT], .box [.fnc 55 [0, 1, 2]], .box [.mapr 3], .mp 137 f])
theorem gJ_ok {B : List Blank} {sT : TV} {E : Int → Int → Option Ob} {d : Nat} (h : JoinC B sT E d) : ∀ xs hl r hl', gJ B sT E d xs hl = some (r, hl') → HCalls Try.prog 55 xs (getL hl) r (getL hl') := by
  intro xs hl r hl' hg
  unfold gJ at hg
  split at hg
  · split at hg
    · rename_i hc
      obtain ⟨⟨rfl, rfl, rfl⟩, rfl, rfl, hf⟩ := hc
      simp only [Option.some.injEq, Prod.mk.injEq] at hg
      obtain ⟨rfl, rfl⟩ := hg
      exact h ⟨_, _, _, _, _, _, _, _⟩ _ _ hf
    · cases hg
  · cases hg
theorem join_zero (B : List Blank) (sT : TV) (E : Int → Int → Option Ob) : JoinC B sT E 0 := by
  intro U fB f hf
  refine hcalls_by Try.mixes spW2_ok (fn := Try.f55) Try.func55 rfl (by kernel_rfl) (by show 5 ≤ _; decide) ?_
  simp (decide := true) (maxSteps := 4000000) only [go_sem, Nat.reduceAdd, Nat.reduceSub, Nat.reduceMul, Nat.reduceDiv, Nat.reduceMod, Nat.reduceLT, Nat.reduceLeDiff, Nat.reduceEqDiff, Nat.reduceBEq, Nat.reduceBNe, Nat.reduceGT, Int.reduceAdd, Int.reduceSub, Int.reduceMul, Int.reduceNeg, Int.reduceLT, Int.reduceLE, Int.reduceEq, Int.reduceNe, Int.reduceBEq, Int.reduceBNe, Int.reduceToNat, Int.reduceGT, Int.reduceGE, ↓reduceIte, decide_true, decide_false, eq_self, Nat.mul_one, Nat.zero_mul, Nat.one_mul, Int.le_refl, Nat.le_refl, Int.cast_ofNat_Int, Try.f55, Tk.cs, Nat.sub_zero, beq_self_eq_true, joinP, rowJ, List.length_nil]
  exact ⟨_, rfl, rfl⟩
theorem join_succ (B : List Blank) (sT : TV) (E : Int → Int → Option Ob) (h8 : B.length ≤ 8) {d : Nat} (hd : d < B.length) (ih : JoinC B sT E d) : JoinC B sT E (d + 1) := by
  intro U fB f hf
  obtain ⟨fr, hfr⟩ : ∃ fr, B.length - (d + 1) = fr := ⟨_, rfl⟩
  have hfr8 : fr < 8 := by omega
  have e1 : ((fr : Int) == (B.length : Int)) = false := beq_int_f (by omega)
  have e2 : IntKind.i64.wrap ((fr : Int) + 1) = ((B.length - d : Nat) : Int) := by rw [wrap_in (by omega) (by omega)]; omega
  have hk8 : (fr : Int) < ((8 : Nat) : Int) := by omega
  have hk8' : (fr : Int) < 8 := by omega
  have hk7 : fr ≤ 7 := by omega
  have hg := tk_get U hfr8
  rw [hfr]
  refine hcalls_by Try.mixes (Spec.oneH_ok (gJ_ok ih) spW2_ok) (fn := Try.f55) Try.func55 rfl (by kernel_rfl) (by show 5 ≤ _; decide) ?_
  cases hu : U.at fr with
  | true =>
    have hj : joinP E B.length (d + 1) U = joinP E B.length d U := by
      simp only [joinP]; rw [hfr, hu]; rfl
    rw [hu] at hg
    simp (decide := true) (maxSteps := 4000000) only [go_sem, Nat.reduceAdd, Nat.reduceSub, Nat.reduceMul, Nat.reduceDiv, Nat.reduceMod, Nat.reduceLT, Nat.reduceLeDiff, Nat.reduceEqDiff, Nat.reduceBEq, Nat.reduceBNe, Nat.reduceGT, Int.reduceAdd, Int.reduceSub, Int.reduceMul, Int.reduceNeg, Int.reduceLT, Int.reduceLE, Int.reduceEq, Int.reduceNe, Int.reduceBEq, Int.reduceBNe, Int.reduceToNat, Int.reduceGT, Int.reduceGE, ↓reduceIte, decide_true, decide_false, eq_self, Nat.mul_one, Nat.zero_mul, Nat.one_mul, Int.le_refl, Nat.le_refl, Int.cast_ofNat_Int, Try.f55, Tk.cs, e1, e2, gJ, hf, hk8, hk8', hk7, hg, Int.toNat_natCast, hj]
    exact ⟨_, rfl, rfl⟩
  | false =>
    have hj : joinP E B.length (d + 1) U = joinTo E B.length d U d := by
      simp only [joinP]; rw [hfr, hu]; unfold joinTo; rw [hfr]; rfl
    rw [hj]
    rw [hu] at hg
    simp (decide := true) (maxSteps := 4000000) only [go_sem, Nat.reduceAdd, Nat.reduceSub, Nat.reduceMul, Nat.reduceDiv, Nat.reduceMod, Nat.reduceLT, Nat.reduceLeDiff, Nat.reduceEqDiff, Nat.reduceBEq, Nat.reduceBNe, Nat.reduceGT, Int.reduceAdd, Int.reduceSub, Int.reduceMul, Int.reduceNeg, Int.reduceLT, Int.reduceLE, Int.reduceEq, Int.reduceNe, Int.reduceBEq, Int.reduceBNe, Int.reduceToNat, Int.reduceGT, Int.reduceGE, ↓reduceIte, decide_true, decide_false, eq_self, Nat.mul_one, Nat.zero_mul, Nat.one_mul, Int.le_refl, Nat.le_refl, Int.cast_ofNat_Int, Try.f55, Tk.cs, e1, e2, gJ, hf, hk8, hk8', hk7, hg, Int.toNat_natCast]
    refine pwpC_loopU (A := { j : Nat // j ≤ d }) [1, 2, 3, 4, 5] (fun j => [(9, .t (.int .i64 ((B.length - d + j.1 : Nat) : Int))), (8, .t (rowJ (joinTo E B.length d U j.1)))]) (fun _ => []) (fun j => d - j.1) ⟨0, by omega⟩ (by decide) (fun _ => by rfl) ?_ fun Q1 hQ1 ⟨j, hjd⟩ I1 hI1 => ?_
    · simp (decide := true) (maxSteps := 4000000) only [go_sem, Nat.reduceAdd, Nat.reduceSub, Nat.reduceMul, Nat.reduceDiv, Nat.reduceMod, Nat.reduceLT, Nat.reduceLeDiff, Nat.reduceEqDiff, Nat.reduceBEq, Nat.reduceBNe, Nat.reduceGT, Int.reduceAdd, Int.reduceSub, Int.reduceMul, Int.reduceNeg, Int.reduceLT, Int.reduceLE, Int.reduceEq, Int.reduceNe, Int.reduceBEq, Int.reduceBNe, Int.reduceToNat, Int.reduceGT, Int.reduceGE, ↓reduceIte, decide_true, decide_false, eq_self, Nat.mul_one, Nat.zero_mul, Nat.one_mul, Int.le_refl, Nat.le_refl, Int.cast_ofNat_Int, Nat.add_zero, joinTo, List.range'_zero, List.foldl_nil]
      first | done | rfl
    · obtain ⟨k, hk⟩ : ∃ k, B.length - d + j = k := ⟨_, rfl⟩
      have hkf : k = fr + 1 + j := by omega
      have hstep := joinTo_succ E B.length d U j
      rw [hfr, ← hkf] at hstep
      have hc1 : IntKind.i64.wrap (k + 1) = ((B.length - d + (j + 1) : Nat) : Int) := by rw [wrap_in (by omega) (by omega)]; omega
      rw [hk]
      by_cases hlt : (k : Int) < B.length
      · have hkk8 : k < 8 := by omega
        have hkk : (k : Int) < ((8 : Nat) : Int) := by omega
        have hkk' : (k : Int) < 8 := by omega
        have hkk7 : k ≤ 7 := by omega
        have hfk := hf fr k
        have hgk := tk_get U hkk8
        unfold joinStep at hstep
        cases hE : E fr k with
        | none =>
          rw [hE] at hstep hfk
          simp only [Option.map_none] at hfk hstep
          simp (decide := true) (maxSteps := 4000000) only [go_sem, Nat.reduceAdd, Nat.reduceSub, Nat.reduceMul, Nat.reduceDiv, Nat.reduceMod, Nat.reduceLT, Nat.reduceLeDiff, Nat.reduceEqDiff, Nat.reduceBEq, Nat.reduceBNe, Nat.reduceGT, Int.reduceAdd, Int.reduceSub, Int.reduceMul, Int.reduceNeg, Int.reduceLT, Int.reduceLE, Int.reduceEq, Int.reduceNe, Int.reduceBEq, Int.reduceBNe, Int.reduceToNat, Int.reduceGT, Int.reduceGE, ↓reduceIte, decide_true, decide_false, eq_self, Nat.mul_one, Nat.zero_mul, Nat.one_mul, Int.le_refl, Nat.le_refl, Int.cast_ofNat_Int, hlt, hfk, Option.getD_none, Option.isSome_none, hkk, hkk', hkk7, hgk, Int.toNat_natCast]
          refine hI1 _ ⟨j + 1, by omega⟩ (by simp only; omega) ?_
          simp (decide := true) (maxSteps := 4000000) only [go_sem, Nat.reduceAdd, Nat.reduceSub, Nat.reduceMul, Nat.reduceDiv, Nat.reduceMod, Nat.reduceLT, Nat.reduceLeDiff, Nat.reduceEqDiff, Nat.reduceBEq, Nat.reduceBNe, Nat.reduceGT, Int.reduceAdd, Int.reduceSub, Int.reduceMul, Int.reduceNeg, Int.reduceLT, Int.reduceLE, Int.reduceEq, Int.reduceNe, Int.reduceBEq, Int.reduceBNe, Int.reduceToNat, Int.reduceGT, Int.reduceGE, ↓reduceIte, decide_true, decide_false, eq_self, Nat.mul_one, Nat.zero_mul, Nat.one_mul, Int.le_refl, Nat.le_refl, Int.cast_ofNat_Int, hc1, hstep]
        | some o =>
          rw [hE] at hstep hfk
          simp only [Option.map_some] at hfk hstep
          unfold Ob.t Ob.cs at hfk
          cases huk : U.at k with
          | true =>
            rw [huk] at hgk hstep
            simp only [if_true] at hstep
            simp (decide := true) (maxSteps := 4000000) only [go_sem, Nat.reduceAdd, Nat.reduceSub, Nat.reduceMul, Nat.reduceDiv, Nat.reduceMod, Nat.reduceLT, Nat.reduceLeDiff, Nat.reduceEqDiff, Nat.reduceBEq, Nat.reduceBNe, Nat.reduceGT, Int.reduceAdd, Int.reduceSub, Int.reduceMul, Int.reduceNeg, Int.reduceLT, Int.reduceLE, Int.reduceEq, Int.reduceNe, Int.reduceBEq, Int.reduceBNe, Int.reduceToNat, Int.reduceGT, Int.reduceGE, ↓reduceIte, decide_true, decide_false, eq_self, Nat.mul_one, Nat.zero_mul, Nat.one_mul, Int.le_refl, Nat.le_refl, Int.cast_ofNat_Int, hlt, hfk, Option.getD_some, Option.isSome_some, hkk, hkk', hkk7, hgk, Int.toNat_natCast]
            refine hI1 _ ⟨j + 1, by omega⟩ (by simp only; omega) ?_
            simp (decide := true) (maxSteps := 4000000) only [go_sem, Nat.reduceAdd, Nat.reduceSub, Nat.reduceMul, Nat.reduceDiv, Nat.reduceMod, Nat.reduceLT, Nat.reduceLeDiff, Nat.reduceEqDiff, Nat.reduceBEq, Nat.reduceBNe, Nat.reduceGT, Int.reduceAdd, Int.reduceSub, Int.reduceMul, Int.reduceNeg, Int.reduceLT, Int.reduceLE, Int.reduceEq, Int.reduceNe, Int.reduceBEq, Int.reduceBNe, Int.reduceToNat, Int.reduceGT, Int.reduceGE, ↓reduceIte, decide_true, decide_false, eq_self, Nat.mul_one, Nat.zero_mul, Nat.one_mul, Int.le_refl, Nat.le_refl, Int.cast_ofNat_Int, hc1, hstep]
          | false =>
            rw [huk] at hgk hstep
            simp only [Bool.false_eq_true, if_false] at hstep
            have hs1 := tk_set U hfr8
            have hs2 := tk_set (U.set fr) hkk8
            have hL := joinP_len E B.length d ((U.set fr).set k)
            have hM := joinTo_len E B.length d U j
            obtain ⟨L, hLe⟩ : ∃ L, joinP E B.length d ((U.set fr).set k) = L := ⟨_, rfl⟩
            obtain ⟨M, hMe⟩ : ∃ M, joinTo E B.length d U j = M := ⟨_, rfl⟩
            rw [hLe, hMe] at hstep
            rw [hLe] at hL
            rw [hMe] at hM
            have hne := tk_ne2 (U := U) k hfr8 hu
            have hLe' : joinP E B.length d ⟨((U.set fr).set k).b0, ((U.set fr).set k).b1, ((U.set fr).set k).b2, ((U.set fr).set k).b3, ((U.set fr).set k).b4, ((U.set fr).set k).b5, ((U.set fr).set k).b6, ((U.set fr).set k).b7⟩ = L := hLe
            have hw : IntKind.i64.wrap ((L.length : Int) + 1) = (L.length : Int) + 1 := wrap_in (by omega) (by omega)
            have fL : (L.flatMap Ob.cs).length = L.length * 5 := flat_len Ob.cs (n := 5) (fun _ => rfl) L
            have hroom : (1 + L.length) * 40 ≤ 140737488355328 := by omega
            have hcase : ∀ N : List Ob, rowJ N = .nilSl ∧ N = [] ∨ rowJ N = .sl (N.flatMap Ob.cs) N.length (N.length == 1) ∧ ¬ N.length = 0 := by
              intro N
              unfold rowJ
              by_cases h : N.length = 0
              · rw [if_pos h]; exact .inl ⟨rfl, List.length_eq_zero_iff.1 h⟩
              · rw [if_neg h]; exact .inr ⟨rfl, h⟩
            have rJ1 : rowJ [o] = .sl [.int .i64 o.f, .int .i64 o.s, .int .i64 o.a, .int .i64 o.b, .int .i64 o.c] 1 true := rfl
            have n1 : ¬ 1 + L.length = 0 := by omega
            have rJ2 : ¬ L.length = 0 → rowJ (o :: L) = .sl (.int .i64 o.f :: .int .i64 o.s :: .int .i64 o.a :: .int .i64 o.b :: .int .i64 o.c :: L.flatMap Ob.cs) (1 + L.length) false := by
              intro h
              unfold rowJ
              rw [if_neg (by simp)]
              have : ((o :: L).length == 1) = false := by simp; intro e; rw [e] at h; exact h rfl
              rw [this, List.length_cons, Nat.add_comm]; rfl
            by_cases hup : L.length + 1 > M.length
            · rw [if_pos hup] at hstep
              have hup' : (L.length : Int) + 1 > M.length := by omega
              rcases hcase L with ⟨rL, hL0⟩ | ⟨rL, hL0⟩
              · subst hL0
                simp only [List.length_nil, Int.cast_ofNat_Int, Int.reduceAdd] at hw hup'
                rcases hcase M with ⟨rM, hM0⟩ | ⟨rM, hM0⟩
                · subst hM0
                  simp (decide := true) (maxSteps := 4000000) only [go_sem, Nat.reduceAdd, Nat.reduceSub, Nat.reduceMul, Nat.reduceDiv, Nat.reduceMod, Nat.reduceLT, Nat.reduceLeDiff, Nat.reduceEqDiff, Nat.reduceBEq, Nat.reduceBNe, Nat.reduceGT, Int.reduceAdd, Int.reduceSub, Int.reduceMul, Int.reduceNeg, Int.reduceLT, Int.reduceLE, Int.reduceEq, Int.reduceNe, Int.reduceBEq, Int.reduceBNe, Int.reduceToNat, Int.reduceGT, Int.reduceGE, ↓reduceIte, decide_true, decide_false, eq_self, Nat.mul_one, Nat.zero_mul, Nat.one_mul, Int.le_refl, Nat.le_refl, Int.cast_ofNat_Int, hlt, hfk, Option.getD_some, Option.isSome_some, hkk, hkk', hkk7, hgk, Int.toNat_natCast, hs1, hs2, hk8, hk8', hk7, hne, e2, gJ, hf, hLe', hMe, rL, rM, hw]
                  refine hI1 _ ⟨j + 1, by omega⟩ (by simp only; omega) ?_
                  simp (decide := true) (maxSteps := 4000000) only [go_sem, Nat.reduceAdd, Nat.reduceSub, Nat.reduceMul, Nat.reduceDiv, Nat.reduceMod, Nat.reduceLT, Nat.reduceLeDiff, Nat.reduceEqDiff, Nat.reduceBEq, Nat.reduceBNe, Nat.reduceGT, Int.reduceAdd, Int.reduceSub, Int.reduceMul, Int.reduceNeg, Int.reduceLT, Int.reduceLE, Int.reduceEq, Int.reduceNe, Int.reduceBEq, Int.reduceBNe, Int.reduceToNat, Int.reduceGT, Int.reduceGE, ↓reduceIte, decide_true, decide_false, eq_self, Nat.mul_one, Nat.zero_mul, Nat.one_mul, Int.le_refl, Nat.le_refl, Int.cast_ofNat_Int, hc1, hstep, rJ1, Ob.cs]
                · simp (decide := true) (maxSteps := 4000000) only [go_sem, Nat.reduceAdd, Nat.reduceSub, Nat.reduceMul, Nat.reduceDiv, Nat.reduceMod, Nat.reduceLT, Nat.reduceLeDiff, Nat.reduceEqDiff, Nat.reduceBEq, Nat.reduceBNe, Nat.reduceGT, Int.reduceAdd, Int.reduceSub, Int.reduceMul, Int.reduceNeg, Int.reduceLT, Int.reduceLE, Int.reduceEq, Int.reduceNe, Int.reduceBEq, Int.reduceBNe, Int.reduceToNat, Int.reduceGT, Int.reduceGE, ↓reduceIte, decide_true, decide_false, eq_self, Nat.mul_one, Nat.zero_mul, Nat.one_mul, Int.le_refl, Nat.le_refl, Int.cast_ofNat_Int, hlt, hfk, Option.getD_some, Option.isSome_some, hkk, hkk', hkk7, hgk, Int.toNat_natCast, hs1, hs2, hk8, hk8', hk7, hne, e2, gJ, hf, hLe', hMe, rL, rM, hw, hup']
                  refine hI1 _ ⟨j + 1, by omega⟩ (by simp only; omega) ?_
                  simp (decide := true) (maxSteps := 4000000) only [go_sem, Nat.reduceAdd, Nat.reduceSub, Nat.reduceMul, Nat.reduceDiv, Nat.reduceMod, Nat.reduceLT, Nat.reduceLeDiff, Nat.reduceEqDiff, Nat.reduceBEq, Nat.reduceBNe, Nat.reduceGT, Int.reduceAdd, Int.reduceSub, Int.reduceMul, Int.reduceNeg, Int.reduceLT, Int.reduceLE, Int.reduceEq, Int.reduceNe, Int.reduceBEq, Int.reduceBNe, Int.reduceToNat, Int.reduceGT, Int.reduceGE, ↓reduceIte, decide_true, decide_false, eq_self, Nat.mul_one, Nat.zero_mul, Nat.one_mul, Int.le_refl, Nat.le_refl, Int.cast_ofNat_Int, hc1, hstep, rJ1, Ob.cs]
              · have rJ2 := rJ2 hL0
                rcases hcase M with ⟨rM, hM0⟩ | ⟨rM, hM0⟩
                · subst hM0
                  simp only [List.length_nil, Int.cast_ofNat_Int] at hup'
                  simp (decide := true) (maxSteps := 4000000) only [go_sem, Nat.reduceAdd, Nat.reduceSub, Nat.reduceMul, Nat.reduceDiv, Nat.reduceMod, Nat.reduceLT, Nat.reduceLeDiff, Nat.reduceEqDiff, Nat.reduceBEq, Nat.reduceBNe, Nat.reduceGT, Int.reduceAdd, Int.reduceSub, Int.reduceMul, Int.reduceNeg, Int.reduceLT, Int.reduceLE, Int.reduceEq, Int.reduceNe, Int.reduceBEq, Int.reduceBNe, Int.reduceToNat, Int.reduceGT, Int.reduceGE, ↓reduceIte, decide_true, decide_false, eq_self, Nat.mul_one, Nat.zero_mul, Nat.one_mul, Int.le_refl, Nat.le_refl, Int.cast_ofNat_Int, hlt, hfk, Option.getD_some, Option.isSome_some, hkk, hkk', hkk7, hgk, Int.toNat_natCast, hs1, hs2, hk8, hk8', hk7, hne, e2, gJ, hf, hLe', hMe, rL, rM, hw, hup', fL, hroom, hL0, allO_t]
                  refine hI1 _ ⟨j + 1, by omega⟩ (by simp only; omega) ?_
                  simp (decide := true) (maxSteps := 4000000) only [go_sem, Nat.reduceAdd, Nat.reduceSub, Nat.reduceMul, Nat.reduceDiv, Nat.reduceMod, Nat.reduceLT, Nat.reduceLeDiff, Nat.reduceEqDiff, Nat.reduceBEq, Nat.reduceBNe, Nat.reduceGT, Int.reduceAdd, Int.reduceSub, Int.reduceMul, Int.reduceNeg, Int.reduceLT, Int.reduceLE, Int.reduceEq, Int.reduceNe, Int.reduceBEq, Int.reduceBNe, Int.reduceToNat, Int.reduceGT, Int.reduceGE, ↓reduceIte, decide_true, decide_false, eq_self, Nat.mul_one, Nat.zero_mul, Nat.one_mul, Int.le_refl, Nat.le_refl, Int.cast_ofNat_Int, hc1, hstep, rJ2, n1, Ob.cs]
                · simp (decide := true) (maxSteps := 4000000) only [go_sem, Nat.reduceAdd, Nat.reduceSub, Nat.reduceMul, Nat.reduceDiv, Nat.reduceMod, Nat.reduceLT, Nat.reduceLeDiff, Nat.reduceEqDiff, Nat.reduceBEq, Nat.reduceBNe, Nat.reduceGT, Int.reduceAdd, Int.reduceSub, Int.reduceMul, Int.reduceNeg, Int.reduceLT, Int.reduceLE, Int.reduceEq, Int.reduceNe, Int.reduceBEq, Int.reduceBNe, Int.reduceToNat, Int.reduceGT, Int.reduceGE, ↓reduceIte, decide_true, decide_false, eq_self, Nat.mul_one, Nat.zero_mul, Nat.one_mul, Int.le_refl, Nat.le_refl, Int.cast_ofNat_Int, hlt, hfk, Option.getD_some, Option.isSome_some, hkk, hkk', hkk7, hgk, Int.toNat_natCast, hs1, hs2, hk8, hk8', hk7, hne, e2, gJ, hf, hLe', hMe, rL, rM, hw, hup', fL, hroom, hL0, allO_t]
                  refine hI1 _ ⟨j + 1, by omega⟩ (by simp only; omega) ?_
                  simp (decide := true) (maxSteps := 4000000) only [go_sem, Nat.reduceAdd, Nat.reduceSub, Nat.reduceMul, Nat.reduceDiv, Nat.reduceMod, Nat.reduceLT, Nat.reduceLeDiff, Nat.reduceEqDiff, Nat.reduceBEq, Nat.reduceBNe, Nat.reduceGT, Int.reduceAdd, Int.reduceSub, Int.reduceMul, Int.reduceNeg, Int.reduceLT, Int.reduceLE, Int.reduceEq, Int.reduceNe, Int.reduceBEq, Int.reduceBNe, Int.reduceToNat, Int.reduceGT, Int.reduceGE, ↓reduceIte, decide_true, decide_false, eq_self, Nat.mul_one, Nat.zero_mul, Nat.one_mul, Int.le_refl, Nat.le_refl, Int.cast_ofNat_Int, hc1, hstep, rJ2, n1, Ob.cs]
            · rw [if_neg hup] at hstep
              have hup' : ¬ (L.length : Int) + 1 > M.length := by omega
              rcases hcase L with ⟨rL, hL0⟩ | ⟨rL, hL0⟩
              · subst hL0
                simp only [List.length_nil, Int.cast_ofNat_Int, Int.reduceAdd] at hw hup'
                rcases hcase M with ⟨rM, hM0⟩ | ⟨rM, hM0⟩
                · subst hM0; simp at hup
                · simp (decide := true) (maxSteps := 4000000) only [go_sem, Nat.reduceAdd, Nat.reduceSub, Nat.reduceMul, Nat.reduceDiv, Nat.reduceMod, Nat.reduceLT, Nat.reduceLeDiff, Nat.reduceEqDiff, Nat.reduceBEq, Nat.reduceBNe, Nat.reduceGT, Int.reduceAdd, Int.reduceSub, Int.reduceMul, Int.reduceNeg, Int.reduceLT, Int.reduceLE, Int.reduceEq, Int.reduceNe, Int.reduceBEq, Int.reduceBNe, Int.reduceToNat, Int.reduceGT, Int.reduceGE, ↓reduceIte, decide_true, decide_false, eq_self, Nat.mul_one, Nat.zero_mul, Nat.one_mul, Int.le_refl, Nat.le_refl, Int.cast_ofNat_Int, hlt, hfk, Option.getD_some, Option.isSome_some, hkk, hkk', hkk7, hgk, Int.toNat_natCast, hs1, hs2, hk8, hk8', hk7, hne, e2, gJ, hf, hLe', hMe, rL, rM, hw, hup']
                  refine hI1 _ ⟨j + 1, by omega⟩ (by simp only; omega) ?_
                  simp (decide := true) (maxSteps := 4000000) only [go_sem, Nat.reduceAdd, Nat.reduceSub, Nat.reduceMul, Nat.reduceDiv, Nat.reduceMod, Nat.reduceLT, Nat.reduceLeDiff, Nat.reduceEqDiff, Nat.reduceBEq, Nat.reduceBNe, Nat.reduceGT, Int.reduceAdd, Int.reduceSub, Int.reduceMul, Int.reduceNeg, Int.reduceLT, Int.reduceLE, Int.reduceEq, Int.reduceNe, Int.reduceBEq, Int.reduceBNe, Int.reduceToNat, Int.reduceGT, Int.reduceGE, ↓reduceIte, decide_true, decide_false, eq_self, Nat.mul_one, Nat.zero_mul, Nat.one_mul, Int.le_refl, Nat.le_refl, Int.cast_ofNat_Int, hc1, hstep, rM]
              · rcases hcase M with ⟨rM, hM0⟩ | ⟨rM, hM0⟩
                · subst hM0; simp at hup
                · simp (decide := true) (maxSteps := 4000000) only [go_sem, Nat.reduceAdd, Nat.reduceSub, Nat.reduceMul, Nat.reduceDiv, Nat.reduceMod, Nat.reduceLT, Nat.reduceLeDiff, Nat.reduceEqDiff, Nat.reduceBEq, Nat.reduceBNe, Nat.reduceGT, Int.reduceAdd, Int.reduceSub, Int.reduceMul, Int.reduceNeg, Int.reduceLT, Int.reduceLE, Int.reduceEq, Int.reduceNe, Int.reduceBEq, Int.reduceBNe, Int.reduceToNat, Int.reduceGT, Int.reduceGE, ↓reduceIte, decide_true, decide_false, eq_self, Nat.mul_one, Nat.zero_mul, Nat.one_mul, Int.le_refl, Nat.le_refl, Int.cast_ofNat_Int, hlt, hfk, Option.getD_some, Option.isSome_some, hkk, hkk', hkk7, hgk, Int.toNat_natCast, hs1, hs2, hk8, hk8', hk7, hne, e2, gJ, hf, hLe', hMe, rL, rM, hw, hup']
                  refine hI1 _ ⟨j + 1, by omega⟩ (by simp only; omega) ?_
                  simp (decide := true) (maxSteps := 4000000) only [go_sem, Nat.reduceAdd, Nat.reduceSub, Nat.reduceMul, Nat.reduceDiv, Nat.reduceMod, Nat.reduceLT, Nat.reduceLeDiff, Nat.reduceEqDiff, Nat.reduceBEq, Nat.reduceBNe, Nat.reduceGT, Int.reduceAdd, Int.reduceSub, Int.reduceMul, Int.reduceNeg, Int.reduceLT, Int.reduceLE, Int.reduceEq, Int.reduceNe, Int.reduceBEq, Int.reduceBNe, Int.reduceToNat, Int.reduceGT, Int.reduceGE, ↓reduceIte, decide_true, decide_false, eq_self, Nat.mul_one, Nat.zero_mul, Nat.one_mul, Int.le_refl, Nat.le_refl, Int.cast_ofNat_Int, hc1, hstep, rM]
      · have hje : j = d := by omega
        subst hje
        simp (decide := true) (maxSteps := 4000000) only [go_sem, Nat.reduceAdd, Nat.reduceSub, Nat.reduceMul, Nat.reduceDiv, Nat.reduceMod, Nat.reduceLT, Nat.reduceLeDiff, Nat.reduceEqDiff, Nat.reduceBEq, Nat.reduceBNe, Nat.reduceGT, Int.reduceAdd, Int.reduceSub, Int.reduceMul, Int.reduceNeg, Int.reduceLT, Int.reduceLE, Int.reduceEq, Int.reduceNe, Int.reduceBEq, Int.reduceBNe, Int.reduceToNat, Int.reduceGT, Int.reduceGE, ↓reduceIte, decide_true, decide_false, eq_self, Nat.mul_one, Nat.zero_mul, Nat.one_mul, Int.le_refl, Nat.le_refl, Int.cast_ofNat_Int, hlt]
        refine hQ1 _ _ ?_
        simp (decide := true) (maxSteps := 4000000) only [go_sem, Nat.reduceAdd, Nat.reduceSub, Nat.reduceMul, Nat.reduceDiv, Nat.reduceMod, Nat.reduceLT, Nat.reduceLeDiff, Nat.reduceEqDiff, Nat.reduceBEq, Nat.reduceBNe, Nat.reduceGT, Int.reduceAdd, Int.reduceSub, Int.reduceMul, Int.reduceNeg, Int.reduceLT, Int.reduceLE, Int.reduceEq, Int.reduceNe, Int.reduceBEq, Int.reduceBNe, Int.reduceToNat, Int.reduceGT, Int.reduceGE, ↓reduceIte, decide_true, decide_false, eq_self, Nat.mul_one, Nat.zero_mul, Nat.one_mul, Int.le_refl, Nat.le_refl, Int.cast_ofNat_Int]
        exact ⟨_, rfl, rfl⟩
theorem join_all (B : List Blank) (sT : TV) (E : Int → Int → Option Ob) (h8 : B.length ≤ 8) : ∀ d, d ≤ B.length → JoinC B sT E d
  | 0, _ => join_zero B sT E
  | d + 1, h => join_succ B sT E h8 (by omega) (join_all B sT E h8 d (by omega))
theorem gMost_c {B : List Blank} {T : List Span} {sB sT : TV} (hB : IsRow Blank.cs sB B) (hT : IsRow Span.cs sT T) (hlB : B.length ≤ 5864062014806) (hlT : T.length ≤ 9000000000000) (w : Want) : PCalls Try.prog 13 [.agg [sB, sT], w.t] (.tup [rowJ (mostP B T w).1, .int .i64 (mostP B T w).2]) := by
  have u1 : unBlanks [] = some [] := rfl
  have u2 : unSpans [] = some [] := rfl
  unfold mostP
  cases hs : stockOk B T with
  | false =>
    refine pcalls_by Try.mixes spW2_ok (fn := Try.f13) Try.func13 rfl (by kernel_rfl) (by show 2 ≤ _; decide) ?_
    rcases hB with ⟨rfl, rfl⟩ | ⟨fB, rfl⟩ <;> rcases hT with ⟨rfl, rfl⟩ | ⟨fT, rfl⟩ <;> simp (decide := true) (maxSteps := 4000000) only [go_sem, Nat.reduceAdd, Nat.reduceSub, Nat.reduceMul, Nat.reduceDiv, Nat.reduceMod, Nat.reduceLT, Nat.reduceLeDiff, Nat.reduceEqDiff, Nat.reduceBEq, Nat.reduceBNe, Nat.reduceGT, Int.reduceAdd, Int.reduceSub, Int.reduceMul, Int.reduceNeg, Int.reduceLT, Int.reduceLE, Int.reduceEq, Int.reduceNe, Int.reduceBEq, Int.reduceBNe, Int.reduceToNat, Int.reduceGT, Int.reduceGE, ↓reduceIte, decide_true, decide_false, eq_self, Nat.mul_one, Nat.zero_mul, Nat.one_mul, Int.le_refl, Nat.le_refl, Int.cast_ofNat_Int, Try.f13, Want.t, u1, u2, hlB, hlT, hs, List.length_nil, rowJ]
  | true =>
    have hs' := stockOk_iff.1 hs
    obtain ⟨fB, rfl⟩ := hB.ne (by omega)
    obtain ⟨fT, rfl⟩ := hT.ne (by omega)
    cases hw : wantOk w with
    | false =>
      refine pcalls_by Try.mixes spW2_ok (fn := Try.f13) Try.func13 rfl (by kernel_rfl) (by show 2 ≤ _; decide) ?_
      simp (decide := true) (maxSteps := 4000000) only [go_sem, Nat.reduceAdd, Nat.reduceSub, Nat.reduceMul, Nat.reduceDiv, Nat.reduceMod, Nat.reduceLT, Nat.reduceLeDiff, Nat.reduceEqDiff, Nat.reduceBEq, Nat.reduceBNe, Nat.reduceGT, Int.reduceAdd, Int.reduceSub, Int.reduceMul, Int.reduceNeg, Int.reduceLT, Int.reduceLE, Int.reduceEq, Int.reduceNe, Int.reduceBEq, Int.reduceBNe, Int.reduceToNat, Int.reduceGT, Int.reduceGE, ↓reduceIte, decide_true, decide_false, eq_self, Nat.mul_one, Nat.zero_mul, Nat.one_mul, Int.le_refl, Nat.le_refl, Int.cast_ofNat_Int, Try.f13, Want.t, hlB, hlT, hs, hw, rowJ, List.length_nil]
    | true =>
      refine pcalls_by Try.mixes (Spec.oneH_ok (gJ_ok (join_all B (.sl (T.flatMap Span.cs) T.length fT) (ofO B T w) (by omega) B.length (Nat.le_refl _))) spW2_ok) (fn := Try.f13) Try.func13 rfl (by kernel_rfl) (by show 2 ≤ _; decide) ?_
      simp (decide := true) (maxSteps := 4000000) only [go_sem, Nat.reduceAdd, Nat.reduceSub, Nat.reduceMul, Nat.reduceDiv, Nat.reduceMod, Nat.reduceLT, Nat.reduceLeDiff, Nat.reduceEqDiff, Nat.reduceBEq, Nat.reduceBNe, Nat.reduceGT, Int.reduceAdd, Int.reduceSub, Int.reduceMul, Int.reduceNeg, Int.reduceLT, Int.reduceLE, Int.reduceEq, Int.reduceNe, Int.reduceBEq, Int.reduceBNe, Int.reduceToNat, Int.reduceGT, Int.reduceGE, ↓reduceIte, decide_true, decide_false, eq_self, Nat.mul_one, Nat.zero_mul, Nat.one_mul, Int.le_refl, Nat.le_refl, Int.cast_ofNat_Int, Try.f13, Want.t, hlB, hlT, hs, hw]
      have hN : ofTo B T w (obV B.length T.length).length = ofA B T w := by
        unfold obV; rw [List.length_map]; exact ofA_to B T w
      refine pwpC_range rfl 54 [.agg [.sl (B.flatMap Blank.cs) B.length fB, .sl (T.flatMap Span.cs) T.length fT]] [] (obV B.length T.length)
        [(26, .t (.fn 54 [.agg [.sl (B.flatMap Blank.cs) B.length fB, .sl (T.flatMap Span.cs) T.length fT]] [])), (2, .ptr 0 0), (3, .ptr 1 0), (7, .ptr 2 0), (8, .ptr 4 0)]
        (fun i => [.box [.t (.sl (B.flatMap Blank.cs) B.length fB), .t (.sl (T.flatMap Span.cs) T.length fT)], .box [.t (.int .i64 w.p.lo), .t (.int .i64 w.p.hi), .t (.int .i64 w.c)], .box [.t (.sl (B.flatMap Blank.cs) B.length fB), .t (.sl (T.flatMap Span.cs) T.length fT)], .mp 137 (ofTo B T w i), .box [.mapr 3]]) 5 ?_ (by rfl) (by rfl) ?_ (gObs_c fB fT hs) ?_ (fun i => by simp) (fun i => rfl) (fun i x hx => ?_) ?_
      · simp (decide := true) (maxSteps := 4000000) only [go_sem, Nat.reduceAdd, Nat.reduceSub, Nat.reduceMul, Nat.reduceDiv, Nat.reduceMod, Nat.reduceLT, Nat.reduceLeDiff, Nat.reduceEqDiff, Nat.reduceBEq, Nat.reduceBNe, Nat.reduceGT, Int.reduceAdd, Int.reduceSub, Int.reduceMul, Int.reduceNeg, Int.reduceLT, Int.reduceLE, Int.reduceEq, Int.reduceNe, Int.reduceBEq, Int.reduceBNe, Int.reduceToNat, Int.reduceGT, Int.reduceGE, ↓reduceIte, decide_true, decide_false, eq_self, Nat.mul_one, Nat.zero_mul, Nat.one_mul, Int.le_refl, Nat.le_refl, Int.cast_ofNat_Int, ofTo, List.take_zero, List.foldl_nil]
        first | done | rfl
      · simp (decide := true) (maxSteps := 4000000) only [go_sem, Nat.reduceAdd, Nat.reduceSub, Nat.reduceMul, Nat.reduceDiv, Nat.reduceMod, Nat.reduceLT, Nat.reduceLeDiff, Nat.reduceEqDiff, Nat.reduceBEq, Nat.reduceBNe, Nat.reduceGT, Int.reduceAdd, Int.reduceSub, Int.reduceMul, Int.reduceNeg, Int.reduceLT, Int.reduceLE, Int.reduceEq, Int.reduceNe, Int.reduceBEq, Int.reduceBNe, Int.reduceToNat, Int.reduceGT, Int.reduceGE, ↓reduceIte, decide_true, decide_false, eq_self, Nat.mul_one, Nat.zero_mul, Nat.one_mul, Int.le_refl, Nat.le_refl, Int.cast_ofNat_Int]
      · intro x hx
        unfold obV at hx
        obtain ⟨y, _, rfl⟩ := List.mem_map.1 hx
        rfl
      · unfold obV at hx
        simp only [List.getElem?_map, Option.map_eq_some_iff] at hx
        obtain ⟨o, ho, rfl⟩ := hx
        have hob := obs_mem (by omega) (List.mem_of_getElem? ho)
        have hb := spansP_bound hs hob
        have hks := ofTo_succ w ho
        have g1 : -4000000000000000000 ≤ (spansP B T o).c.lo ∧ (spansP B T o).c.lo ≤ 4000000000000000000 := by omega
        have hlk := of_fold B T w (min o.f o.s) (max o.f o.s) ((obsA B.length T.length).take i) (fun _ => none)
        simp only at hlk
        rw [show ((obsA B.length T.length).take i).foldl (ofStep B T w) (fun _ => none) = ofTo B T w i from rfl] at hlk
        unfold ofStep keyO at hks
        cases hfd : ((obsA B.length T.length).take i).find? (isFor B T w (min o.f o.s) (max o.f o.s)) with
        | some o' =>
          rw [hfd] at hlk
          simp only [Option.map_some] at hlk
          rw [hlk] at hks
          simp only [Option.isSome_some, if_true] at hks
          unfold Ob.t Ob.cs at hlk
          cases hg : goodB (spansP B T o) w <;> simp (decide := true) (maxSteps := 4000000) only [go_sem, Nat.reduceAdd, Nat.reduceSub, Nat.reduceMul, Nat.reduceDiv, Nat.reduceMod, Nat.reduceLT, Nat.reduceLeDiff, Nat.reduceEqDiff, Nat.reduceBEq, Nat.reduceBNe, Nat.reduceGT, Int.reduceAdd, Int.reduceSub, Int.reduceMul, Int.reduceNeg, Int.reduceLT, Int.reduceLE, Int.reduceEq, Int.reduceNe, Int.reduceBEq, Int.reduceBNe, Int.reduceToNat, Int.reduceGT, Int.reduceGE, ↓reduceIte, decide_true, decide_false, eq_self, Nat.mul_one, Nat.zero_mul, Nat.one_mul, Int.le_refl, Nat.le_refl, Int.cast_ofNat_Int, Ob.t, Ob.cs, Sn.t, hs, hob, g1, hg, hlk, Option.isSome_some, Option.getD_some, hks]
        | none =>
          rw [hfd] at hlk
          simp only [Option.map_none] at hlk
          rw [hlk] at hks
          simp only [Option.isSome_none, Bool.false_eq_true, if_false] at hks
          cases hg : goodB (spansP B T o) w <;> rw [hg] at hks <;> simp only [Bool.false_eq_true, if_false, if_true] at hks <;> simp (decide := true) (maxSteps := 4000000) only [go_sem, Nat.reduceAdd, Nat.reduceSub, Nat.reduceMul, Nat.reduceDiv, Nat.reduceMod, Nat.reduceLT, Nat.reduceLeDiff, Nat.reduceEqDiff, Nat.reduceBEq, Nat.reduceBNe, Nat.reduceGT, Int.reduceAdd, Int.reduceSub, Int.reduceMul, Int.reduceNeg, Int.reduceLT, Int.reduceLE, Int.reduceEq, Int.reduceNe, Int.reduceBEq, Int.reduceBNe, Int.reduceToNat, Int.reduceGT, Int.reduceGE, ↓reduceIte, decide_true, decide_false, eq_self, Nat.mul_one, Nat.zero_mul, Nat.one_mul, Int.le_refl, Nat.le_refl, Int.cast_ofNat_Int, Ob.t, Ob.cs, Sn.t, hs, hob, g1, hg, hlk, Option.isSome_none, Option.getD_none, hks]
      · have hA : (∀ i j : Int, ofA B T w (.agg [.int .i64 i, .int .i64 j]) = Option.map Ob.t (ofO B T w i j)) = True := eq_true (ofA_look B T w)
        rw [hN]
        simp (decide := true) (maxSteps := 4000000) only [go_sem, Nat.reduceAdd, Nat.reduceSub, Nat.reduceMul, Nat.reduceDiv, Nat.reduceMod, Nat.reduceLT, Nat.reduceLeDiff, Nat.reduceEqDiff, Nat.reduceBEq, Nat.reduceBNe, Nat.reduceGT, Int.reduceAdd, Int.reduceSub, Int.reduceMul, Int.reduceNeg, Int.reduceLT, Int.reduceLE, Int.reduceEq, Int.reduceNe, Int.reduceBEq, Int.reduceBNe, Int.reduceToNat, Int.reduceGT, Int.reduceGE, ↓reduceIte, decide_true, decide_false, eq_self, Nat.mul_one, Nat.zero_mul, Nat.one_mul, Int.le_refl, Nat.le_refl, Int.cast_ofNat_Int, gJ, hA, Nat.sub_self]
        rfl
end Go.Proofs.Ytadkjjnnnkfalaa.Gl

/- Part Gf. -/
namespace Go.Oc.Gl
end Go.Oc.Gl
namespace Go.Proofs.Ytadkjjnnnkfalaa.Gl
end Go.Proofs.Ytadkjjnnnkfalaa.Gl
namespace Go.Oc.Gl
open Go Go.Pm
/-- A reading of fringes. -/
structure Fr where
  p : Span
  r : Span
  g : Int
  deriving DecidableEq
def Fr.cs (f : Fr) : List TV := [.int .i64 f.p.lo, .int .i64 f.p.hi, .int .i64 f.r.lo, .int .i64 f.r.hi, .int .i64 f.g]
def unFrs : List TV → Option (List Fr)
  | [] => some []
  | .int .i64 a :: .int .i64 b :: .int .i64 c :: .int .i64 d :: .int .i64 e :: r => (unFrs r).map (⟨⟨a, b⟩, ⟨c, d⟩, e⟩ :: ·)
  | _ => none
theorem unFrs_eq : ∀ l : List Fr, unFrs (l.flatMap Fr.cs) = some l
  | [] => rfl
  | x :: l => by simp [Fr.cs, unFrs, unFrs_eq l]
theorem unFrs_some : ∀ {cs : List TV} {l : List Fr}, unFrs cs = some l → cs = l.flatMap Fr.cs := by
  intro cs
  induction cs using unFrs.induct with
  | case1 => intro l h; simp [unFrs] at h; subst h; rfl
  | case2 a b c d e r ih =>
    intro l h
    simp only [unFrs, Option.map_eq_some_iff] at h
    obtain ⟨l', h1, rfl⟩ := h
    rw [ih h1]; rfl
  | case3 r h1 h2 =>
    intro l h
    unfold unFrs at h
    split at h
    · exact absurd rfl h1
    · exact absurd rfl (h2 _ _ _ _ _ _)
    · cases h
attribute [go_sem] unFrs_eq
def frOk (f : Fr) : Bool := spannedB f.p (-1000) 1000 && spannedB f.r 0 1000 && inB f.g (-1) 1
theorem frOk_iff {f : Fr} : frOk f = true ↔ (-1000 ≤ f.p.lo ∧ f.p.lo ≤ f.p.hi ∧ f.p.hi ≤ 1000) ∧ (0 ≤ f.r.lo ∧ f.r.lo ≤ f.r.hi ∧ f.r.hi ≤ 1000) ∧ -1 ≤ f.g ∧ f.g ≤ 1 := by
  simp only [frOk, spannedB, inB, Bool.and_eq_true, decide_eq_true_eq]
  constructor
  · rintro ⟨⟨a, b⟩, c⟩; omega
  · rintro ⟨a, b, c⟩; omega
def agB (f : Fr) (c : Int) : Bool := (decide (f.g ≥ 0) && inB c (f.p.lo + f.r.lo) (f.p.hi + f.r.hi)) || (decide (f.g ≤ 0) && inB c (f.p.lo - f.r.hi) (f.p.hi - f.r.lo))
def frsOk (l : List Fr) : Bool := inB l.length 1 12 && l.all frOk
def frAll (l : List Fr) (c : Int) : Bool := l.all fun f => agB f c
def surfStep (l : List Fr) (out : List Span) (c : Int) : List Span := if frAll l c then (match out.getLast? with
  | some s => if s.hi = c - 1 then out.dropLast ++ [⟨s.lo, c⟩] else out ++ [⟨c, c⟩]
  | none => [⟨c, c⟩]) else out
def surfTo (l : List Fr) (k : Nat) : List Span := (List.range k).foldl (fun out (i : Nat) => surfStep l out ((i : Int) - 2000)) []
theorem surfTo_succ (l : List Fr) (k : Nat) : surfTo l (k + 1) = surfStep l (surfTo l k) ((k : Int) - 2000) := by
  unfold surfTo; rw [List.range_succ, List.foldl_append]; rfl
def surfP (l : List Fr) : List Span × Int := if frsOk l = false then ([], 44) else if surfTo l 4001 = [] then ([], 4) else (surfTo l 4001, 0)
theorem surf_len (l : List Fr) : ∀ k, (surfTo l k).length ≤ k
  | 0 => by simp [surfTo]
  | k + 1 => by
    have ih := surf_len l k
    rw [surfTo_succ]
    unfold surfStep
    split
    · split
      · split
        · rename_i s hs _
          have : surfTo l k ≠ [] := by intro h; rw [h] at hs; cases hs
          have hp := List.length_pos_iff.2 this
          simp only [List.length_append, List.length_dropLast, List.length_cons, List.length_nil]; omega
        · simp only [List.length_append, List.length_cons, List.length_nil]; omega
      · simp
    · omega
theorem frsOk_at {l : List Fr} (h : frsOk l = true) : (1 ≤ l.length ∧ l.length ≤ 12) ∧ ∀ f ∈ l, frOk f = true := by
  simp only [frsOk, inB, Bool.and_eq_true, decide_eq_true_eq, List.all_eq_true] at h
  exact ⟨by omega, h.2⟩
/-- A list is nothing, or ends in something. -/
theorem snoc_cases {α : Type} (l : List α) : l = [] ∨ ∃ i x, l = i ++ [x] := by
  rcases List.eq_nil_or_concat l with h | ⟨i, x, h⟩
  · exact .inl h
  · exact .inr ⟨i, x, by rw [h, List.concat_eq_append]⟩
end Go.Oc.Gl
namespace Go.Proofs.Ytadkjjnnnkfalaa.Gl
open Go.RowKit Go.Pm Go.Oc Go.Oc.Gl
set_option maxRecDepth 100000
set_option linter.unusedVariables false
set_option maxHeartbeats 4000000

theorem gFrValid_c (f : Fr) : PCalls Try.prog 58 [.agg f.cs] (.bool (frOk f)) := by
  refine pcalls_by Try.mixes spW2_ok (fn := Try.f58) Try.func58 rfl (by kernel_rfl) (by show 1 ≤ _; decide) ?_
  simp (decide := true) (maxSteps := 4000000) only [go_sem, Nat.reduceAdd, Nat.reduceSub, Nat.reduceMul, Nat.reduceDiv, Nat.reduceMod, Nat.reduceLT, Nat.reduceLeDiff, Nat.reduceEqDiff, Nat.reduceBEq, Nat.reduceBNe, Nat.reduceGT, Int.reduceAdd, Int.reduceSub, Int.reduceMul, Int.reduceNeg, Int.reduceLT, Int.reduceLE, Int.reduceEq, Int.reduceNe, Int.reduceBEq, Int.reduceBNe, Int.reduceToNat, Int.reduceGT, Int.reduceGE, ↓reduceIte, decide_true, decide_false, eq_self, Nat.mul_one, Nat.zero_mul, Nat.one_mul, Int.le_refl, Nat.le_refl, Int.cast_ofNat_Int, Try.f58, Fr.cs, frOk]
theorem gFrAgrees_c (f : Fr) (c : Int) (h : frOk f = true) : PCalls Try.prog 59 [.agg f.cs, .int .i64 c] (.bool (agB f c)) := by
  have h' := frOk_iff.1 h
  have w1 : IntKind.i64.wrap (f.p.lo + f.r.lo) = f.p.lo + f.r.lo := wrap_in (by omega) (by omega)
  have w2 : IntKind.i64.wrap (f.p.hi + f.r.hi) = f.p.hi + f.r.hi := wrap_in (by omega) (by omega)
  have w3 : IntKind.i64.wrap (f.p.lo - f.r.hi) = f.p.lo - f.r.hi := wrap_in (by omega) (by omega)
  have w4 : IntKind.i64.wrap (f.p.hi - f.r.lo) = f.p.hi - f.r.lo := wrap_in (by omega) (by omega)
  refine pcalls_by Try.mixes spW2_ok (fn := Try.f59) Try.func59 rfl (by kernel_rfl) (by show 2 ≤ _; decide) ?_
  unfold agB
  by_cases c1 : f.g ≥ 0 <;> by_cases c2 : f.g ≤ 0 <;> cases c3 : inB c (f.p.lo + f.r.lo) (f.p.hi + f.r.hi) <;> cases c4 : inB c (f.p.lo - f.r.hi) (f.p.hi - f.r.lo) <;> simp (decide := true) (maxSteps := 4000000) only [go_sem, Nat.reduceAdd, Nat.reduceSub, Nat.reduceMul, Nat.reduceDiv, Nat.reduceMod, Nat.reduceLT, Nat.reduceLeDiff, Nat.reduceEqDiff, Nat.reduceBEq, Nat.reduceBNe, Nat.reduceGT, Int.reduceAdd, Int.reduceSub, Int.reduceMul, Int.reduceNeg, Int.reduceLT, Int.reduceLE, Int.reduceEq, Int.reduceNe, Int.reduceBEq, Int.reduceBNe, Int.reduceToNat, Int.reduceGT, Int.reduceGE, ↓reduceIte, decide_true, decide_false, eq_self, Nat.mul_one, Nat.zero_mul, Nat.one_mul, Int.le_refl, Nat.le_refl, Int.cast_ofNat_Int, Try.f59, Fr.cs, w1, w2, w3, w4, c1, c2, c3, c4, Bool.and_self, Bool.or_self, Bool.false_and, Bool.and_false, Bool.or_false, Bool.or_true, Bool.true_and, Bool.and_true]
noncomputable def glFrValid : List TV → Option TV
  | [.agg [.int .i64 a, .int .i64 b, .int .i64 c, .int .i64 d, .int .i64 e]] => some (.bool (frOk ⟨⟨a, b⟩, ⟨c, d⟩, e⟩))
  | _ => none
theorem glFrValid_ok : ∀ xs r, glFrValid xs = some r → PCalls Try.prog 58 xs r := by
  intro xs r h
  unfold glFrValid at h
  split at h
  · cases h; exact gFrValid_c ⟨⟨_, _⟩, ⟨_, _⟩, _⟩
  · cases h
attribute [go_sem] glFrValid
noncomputable def glFrAgrees : List TV → Option TV
  | [.agg [.int .i64 a, .int .i64 b, .int .i64 c, .int .i64 d, .int .i64 e], .int .i64 n] => if frOk ⟨⟨a, b⟩, ⟨c, d⟩, e⟩ = true then some (.bool (agB ⟨⟨a, b⟩, ⟨c, d⟩, e⟩ n)) else none
  | _ => none
theorem glFrAgrees_ok : ∀ xs r, glFrAgrees xs = some r → PCalls Try.prog 59 xs r := by
  intro xs r h
  unfold glFrAgrees at h
  split at h
  · split at h
    · rename_i hc; cases h; exact gFrAgrees_c ⟨⟨_, _⟩, ⟨_, _⟩, _⟩ _ hc
    · cases h
  · cases h
attribute [go_sem] glFrAgrees
noncomputable def spF1 : Pm.Spec := (spW2.one 58 glFrValid).one 59 glFrAgrees
@[go_sem] theorem spF1_p (f : FuncId) (xs : List TV) : spF1.p f xs = Pm.Spec.p ((spW2.one 58 glFrValid).one 59 glFrAgrees) f xs := rfl
@[go_sem] theorem spF1_h (f : FuncId) (ps : List PV) (hl : List PO) : spF1.h f ps hl = Pm.Spec.h ((spW2.one 58 glFrValid).one 59 glFrAgrees) f ps hl := rfl
@[go_sem] theorem spF1_y (Y : Pm.YS) (f : FuncId) (ps : List PV) (hl : List PO) : spF1.y Y f ps hl = Pm.Spec.y ((spW2.one 58 glFrValid).one 59 glFrAgrees) Y f ps hl := rfl
@[go_sem] theorem spF1_fz (f : FuncId) : spF1.fz f = Pm.Spec.fz ((spW2.one 58 glFrValid).one 59 glFrAgrees) f := rfl
@[go_sem] theorem spF1_fr (f : FuncId) : spF1.fr f = Pm.Spec.fr ((spW2.one 58 glFrValid).one 59 glFrAgrees) f := rfl
@[go_sem] theorem spF1_yf (f : FuncId) : spF1.yf f = Pm.Spec.yf ((spW2.one 58 glFrValid).one 59 glFrAgrees) f := rfl
@[go_sem] theorem spF1_mu (t : TypeId) : spF1.mu t = Pm.Spec.mu ((spW2.one 58 glFrValid).one 59 glFrAgrees) t := rfl
@[go_sem] theorem spF1_nf (t : TypeId) : spF1.nf t = Pm.Spec.nf ((spW2.one 58 glFrValid).one 59 glFrAgrees) t := rfl
theorem spF1_ok : SpecOk Try.prog spF1 := Spec.one_ok glFrAgrees_ok (Spec.one_ok glFrValid_ok spW2_ok)
noncomputable def spF2 : Pm.Spec := { spF1 with mu := fun t => t == 23 }
theorem spF2_ok : SpecOk Try.prog spF2 := ⟨spF1_ok.1, spF1_ok.2⟩
@[go_sem] theorem spF2_p (f : FuncId) (xs : List TV) : spF2.p f xs = spF1.p f xs := rfl
@[go_sem] theorem spF2_h (f : FuncId) (ps : List PV) (hl : List PO) : spF2.h f ps hl = spF1.h f ps hl := rfl
@[go_sem] theorem spF2_fz (f : FuncId) : spF2.fz f = spF1.fz f := rfl
@[go_sem] theorem spF2_fr (f : FuncId) : spF2.fr f = spF1.fr f := rfl
@[go_sem] theorem spF2_mu (t : TypeId) : spF2.mu t = (t == 23) := rfl
attribute [go_sem] popM
end Go.Proofs.Ytadkjjnnnkfalaa.Gl

/- Part Gg. -/
namespace Go.Oc.Gl
end Go.Oc.Gl
namespace Go.Proofs.Ytadkjjnnnkfalaa.Gl
end Go.Proofs.Ytadkjjnnnkfalaa.Gl
namespace Go.Proofs.Ytadkjjnnnkfalaa.Gl
open Go.RowKit Go.Pm Go.Oc Go.Oc.Gl
set_option maxRecDepth 100000
set_option linter.unusedVariables false
set_option maxHeartbeats 4000000

def outV (out : List Span) : PV := if out.length = 0 then .t .nilSl else .gsl 1 (out.length - 1) 2 0 out.length false
def outH (out : List Span) : Wr := if out.length = 0 then [] else [(0, .grow 0 [.junk, .junk] 29 2), (1, .grow (out.length - 1) ((out.flatMap Span.cs).map .t) 29 2)]
theorem cellsW_tt (l : List PO) : ∀ cs : List TV, cellsW l (cs.map .t) (cs.map .t)
  | [] => trivial
  | c :: cs => ⟨by simp [cellW, PV.toT], cellsW_tt l cs⟩
theorem thawC_tt (h : Hp) : ∀ cs : List TV, allO ((cs.map PV.t).map (thawC h)) = some cs
  | [] => rfl
  | c :: cs => by simp only [List.map_cons, allO, thawC, PV.toT, thawC_tt h cs, Option.map_some]
theorem idsG_tt : ∀ cs : List TV, (cs.map PV.t).flatMap idsG = []
  | [] => rfl
  | c :: cs => by simp only [List.map_cons, List.flatMap_cons, idsG_tt cs]; rfl
/-- The cells of a row, the last one told. -/
theorem surf_cells (i : List Span) (y : Span) (c : Int) {m : Nat} (hm : i.length = m) :
    (((i.flatMap Span.cs).map PV.t ++ [PV.t (.int .i64 y.lo), PV.t (.int .i64 y.hi)]) : List PV)[m * 2 + 1]? = some (.t (.int .i64 y.hi)) ∧
    ((((i.flatMap Span.cs).map PV.t ++ [PV.t (.int .i64 y.lo), PV.t (.int .i64 y.hi)]) : List PV).take (m * 2 + 1) ++ [PV.t (.int .i64 c)] ++ (((i.flatMap Span.cs).map PV.t ++ [PV.t (.int .i64 y.lo), PV.t (.int .i64 y.hi)]) : List PV).drop (m * 2 + 1 + 1)) = ((i.flatMap Span.cs).map PV.t ++ [PV.t (.int .i64 y.lo), PV.t (.int .i64 c)]) ∧
    (((i.flatMap Span.cs).map PV.t ++ [PV.t (.int .i64 y.lo), PV.t (.int .i64 y.hi)]) : List PV).length = (m + 1) * 2 := by
  have hl : ((i.flatMap Span.cs).map PV.t).length = m * 2 := by rw [List.length_map, flat_len Span.cs (n := 2) (fun _ => rfl), hm]
  refine ⟨?_, ?_, ?_⟩
  · rw [List.getElem?_append_right (by omega), hl]; simp
  · rw [List.take_append, List.drop_append, hl, List.take_of_length_le (by omega), List.drop_eq_nil_of_le (by omega)]
    simp
    try omega
  · rw [List.length_append, hl]; simp; omega
theorem gSurface_c {l : List Fr} {s : TV} (hs : IsRow Fr.cs s l) (hl : l.length ≤ 5864062014806) : PCalls Try.prog 17 [s] (.tup [if (surfP l).1.length = 0 then .nilSl else .sl ((surfP l).1.flatMap Span.cs) (surfP l).1.length true, .int .i64 (surfP l).2]) := by
  refine pcalls_by Try.mixes spF2_ok (fn := Try.f17) Try.func17 rfl (by kernel_rfl) (by show 1 ≤ _; decide) ?_
  unfold surfP
  cases hlen : inB l.length 1 12 with
  | false =>
    have hno : frsOk l = false := by unfold frsOk; rw [hlen]; rfl
    rcases hs with ⟨rfl, rfl⟩ | ⟨full, rfl⟩
    · simp (decide := true) (maxSteps := 4000000) only [go_sem, Nat.reduceAdd, Nat.reduceSub, Nat.reduceMul, Nat.reduceDiv, Nat.reduceMod, Nat.reduceLT, Nat.reduceLeDiff, Nat.reduceEqDiff, Nat.reduceBEq, Nat.reduceBNe, Nat.reduceGT, Int.reduceAdd, Int.reduceSub, Int.reduceMul, Int.reduceNeg, Int.reduceLT, Int.reduceLE, Int.reduceEq, Int.reduceNe, Int.reduceBEq, Int.reduceBNe, Int.reduceToNat, Int.reduceGT, Int.reduceGE, ↓reduceIte, decide_true, decide_false, eq_self, Nat.mul_one, Nat.zero_mul, Nat.one_mul, Int.le_refl, Nat.le_refl, Int.cast_ofNat_Int, Try.f17, hno, List.length_nil, show inB 0 1 12 = false from rfl]
    · simp (decide := true) (maxSteps := 4000000) only [go_sem, Nat.reduceAdd, Nat.reduceSub, Nat.reduceMul, Nat.reduceDiv, Nat.reduceMod, Nat.reduceLT, Nat.reduceLeDiff, Nat.reduceEqDiff, Nat.reduceBEq, Nat.reduceBNe, Nat.reduceGT, Int.reduceAdd, Int.reduceSub, Int.reduceMul, Int.reduceNeg, Int.reduceLT, Int.reduceLE, Int.reduceEq, Int.reduceNe, Int.reduceBEq, Int.reduceBNe, Int.reduceToNat, Int.reduceGT, Int.reduceGE, ↓reduceIte, decide_true, decide_false, eq_self, Nat.mul_one, Nat.zero_mul, Nat.one_mul, Int.le_refl, Nat.le_refl, Int.cast_ofNat_Int, Try.f17, hno, hlen, List.length_nil]
  | true =>
    have hlen' := inB_iff.1 hlen
    obtain ⟨full, rfl⟩ := hs.ne (by omega)
    simp (decide := true) (maxSteps := 4000000) only [go_sem, Nat.reduceAdd, Nat.reduceSub, Nat.reduceMul, Nat.reduceDiv, Nat.reduceMod, Nat.reduceLT, Nat.reduceLeDiff, Nat.reduceEqDiff, Nat.reduceBEq, Nat.reduceBNe, Nat.reduceGT, Int.reduceAdd, Int.reduceSub, Int.reduceMul, Int.reduceNeg, Int.reduceLT, Int.reduceLE, Int.reduceEq, Int.reduceNe, Int.reduceBEq, Int.reduceBNe, Int.reduceToNat, Int.reduceGT, Int.reduceGE, ↓reduceIte, decide_true, decide_false, eq_self, Nat.mul_one, Nat.zero_mul, Nat.one_mul, Int.le_refl, Nat.le_refl, Int.cast_ofNat_Int, Try.f17, hlen]
    refine pwpC_loopU (A := { k : Nat // k ≤ l.length ∧ (l.take k).all frOk = true }) [0, 15, 16] (fun k => [(17, .t (.int .i64 k.1))]) (fun _ => []) (fun k => l.length - k.1) ⟨0, by omega, rfl⟩ (by decide) (fun _ => by rfl) ?_ fun Q1 hQ1 ⟨k, hk, hka⟩ I1 hI1 => ?_
    · simp (decide := true) (maxSteps := 4000000) only [go_sem, Nat.reduceAdd, Nat.reduceSub, Nat.reduceMul, Nat.reduceDiv, Nat.reduceMod, Nat.reduceLT, Nat.reduceLeDiff, Nat.reduceEqDiff, Nat.reduceBEq, Nat.reduceBNe, Nat.reduceGT, Int.reduceAdd, Int.reduceSub, Int.reduceMul, Int.reduceNeg, Int.reduceLT, Int.reduceLE, Int.reduceEq, Int.reduceNe, Int.reduceBEq, Int.reduceBNe, Int.reduceToNat, Int.reduceGT, Int.reduceGE, ↓reduceIte, decide_true, decide_false, eq_self, Nat.mul_one, Nat.zero_mul, Nat.one_mul, Int.le_refl, Nat.le_refl, Int.cast_ofNat_Int]
    · by_cases hlt : (k : Int) < l.length
      · obtain ⟨x, hx⟩ := get_lt hlt
        have hd := flat_at Fr.cs (n := 5) (fun _ => rfl) hx
        have hc1 : IntKind.i64.wrap (k + 1) = ((k + 1 : Nat) : Int) := by rw [wrap_in (by omega) (by omega)]; omega
        have ht := take_all frOk hx
        rw [hka, Bool.true_and] at ht
        rcases (Bool.eq_false_or_eq_true (frOk x)).symm with hok | hok
        · have hno : frsOk l = false := by
            unfold frsOk
            rw [all_of_take (k := k + 1) (by rw [ht]; exact hok), Bool.and_false]
          simp (decide := true) (maxSteps := 4000000) only [go_sem, Nat.reduceAdd, Nat.reduceSub, Nat.reduceMul, Nat.reduceDiv, Nat.reduceMod, Nat.reduceLT, Nat.reduceLeDiff, Nat.reduceEqDiff, Nat.reduceBEq, Nat.reduceBNe, Nat.reduceGT, Int.reduceAdd, Int.reduceSub, Int.reduceMul, Int.reduceNeg, Int.reduceLT, Int.reduceLE, Int.reduceEq, Int.reduceNe, Int.reduceBEq, Int.reduceBNe, Int.reduceToNat, Int.reduceGT, Int.reduceGE, ↓reduceIte, decide_true, decide_false, eq_self, Nat.mul_one, Nat.zero_mul, Nat.one_mul, Int.le_refl, Nat.le_refl, Int.cast_ofNat_Int, hlt, hd, Fr.cs, hok]
          refine hQ1 _ _ ?_
          simp (decide := true) (maxSteps := 4000000) only [go_sem, Nat.reduceAdd, Nat.reduceSub, Nat.reduceMul, Nat.reduceDiv, Nat.reduceMod, Nat.reduceLT, Nat.reduceLeDiff, Nat.reduceEqDiff, Nat.reduceBEq, Nat.reduceBNe, Nat.reduceGT, Int.reduceAdd, Int.reduceSub, Int.reduceMul, Int.reduceNeg, Int.reduceLT, Int.reduceLE, Int.reduceEq, Int.reduceNe, Int.reduceBEq, Int.reduceBNe, Int.reduceToNat, Int.reduceGT, Int.reduceGE, ↓reduceIte, decide_true, decide_false, eq_self, Nat.mul_one, Nat.zero_mul, Nat.one_mul, Int.le_refl, Nat.le_refl, Int.cast_ofNat_Int, hno, List.length_nil]
        · simp (decide := true) (maxSteps := 4000000) only [go_sem, Nat.reduceAdd, Nat.reduceSub, Nat.reduceMul, Nat.reduceDiv, Nat.reduceMod, Nat.reduceLT, Nat.reduceLeDiff, Nat.reduceEqDiff, Nat.reduceBEq, Nat.reduceBNe, Nat.reduceGT, Int.reduceAdd, Int.reduceSub, Int.reduceMul, Int.reduceNeg, Int.reduceLT, Int.reduceLE, Int.reduceEq, Int.reduceNe, Int.reduceBEq, Int.reduceBNe, Int.reduceToNat, Int.reduceGT, Int.reduceGE, ↓reduceIte, decide_true, decide_false, eq_self, Nat.mul_one, Nat.zero_mul, Nat.one_mul, Int.le_refl, Nat.le_refl, Int.cast_ofNat_Int, hlt, hd, Fr.cs, hok]
          refine hI1 _ ⟨k + 1, by omega, by rw [ht]; exact hok⟩ (by simp only; omega) ?_
          simp (decide := true) (maxSteps := 4000000) only [go_sem, Nat.reduceAdd, Nat.reduceSub, Nat.reduceMul, Nat.reduceDiv, Nat.reduceMod, Nat.reduceLT, Nat.reduceLeDiff, Nat.reduceEqDiff, Nat.reduceBEq, Nat.reduceBNe, Nat.reduceGT, Int.reduceAdd, Int.reduceSub, Int.reduceMul, Int.reduceNeg, Int.reduceLT, Int.reduceLE, Int.reduceEq, Int.reduceNe, Int.reduceBEq, Int.reduceBNe, Int.reduceToNat, Int.reduceGT, Int.reduceGE, ↓reduceIte, decide_true, decide_false, eq_self, Nat.mul_one, Nat.zero_mul, Nat.one_mul, Int.le_refl, Nat.le_refl, Int.cast_ofNat_Int, hc1]
      · have hke : k = l.length := by omega
        subst hke
        rw [List.take_length] at hka
        have hok : frsOk l = true := by unfold frsOk; rw [hlen, hka]; rfl
        have hmem := (frsOk_at hok).2
        simp (decide := true) (maxSteps := 4000000) only [go_sem, Nat.reduceAdd, Nat.reduceSub, Nat.reduceMul, Nat.reduceDiv, Nat.reduceMod, Nat.reduceLT, Nat.reduceLeDiff, Nat.reduceEqDiff, Nat.reduceBEq, Nat.reduceBNe, Nat.reduceGT, Int.reduceAdd, Int.reduceSub, Int.reduceMul, Int.reduceNeg, Int.reduceLT, Int.reduceLE, Int.reduceEq, Int.reduceNe, Int.reduceBEq, Int.reduceBNe, Int.reduceToNat, Int.reduceGT, Int.reduceGE, ↓reduceIte, decide_true, decide_false, eq_self, Nat.mul_one, Nat.zero_mul, Nat.one_mul, Int.le_refl, Nat.le_refl, Int.cast_ofNat_Int, hlt]
        refine hQ1 _ _ ?_
        simp (decide := true) (maxSteps := 4000000) only [go_sem, Nat.reduceAdd, Nat.reduceSub, Nat.reduceMul, Nat.reduceDiv, Nat.reduceMod, Nat.reduceLT, Nat.reduceLeDiff, Nat.reduceEqDiff, Nat.reduceBEq, Nat.reduceBNe, Nat.reduceGT, Int.reduceAdd, Int.reduceSub, Int.reduceMul, Int.reduceNeg, Int.reduceLT, Int.reduceLE, Int.reduceEq, Int.reduceNe, Int.reduceBEq, Int.reduceBNe, Int.reduceToNat, Int.reduceGT, Int.reduceGE, ↓reduceIte, decide_true, decide_false, eq_self, Nat.mul_one, Nat.zero_mul, Nat.one_mul, Int.le_refl, Nat.le_refl, Int.cast_ofNat_Int, hok]
        refine pwpC_loopU (A := { k : Nat // k ≤ 4001 }) [0] (fun k => [(7, .t (.int .i64 ((k.1 : Int) - 2000))), (6, outV (surfTo l k.1))]) (fun k => outH (surfTo l k.1)) (fun k => 4001 - k.1) ⟨0, by omega⟩ (by decide) (fun _ => by rfl) ?_ fun Q2 hQ2 ⟨c, hc⟩ I2 hI2 => ?_
        · have v0 : outV (surfTo l 0) = .t .nilSl := rfl
          have o0 : outH (surfTo l 0) = [] := rfl
          simp (decide := true) (maxSteps := 4000000) only [go_sem, Nat.reduceAdd, Nat.reduceSub, Nat.reduceMul, Nat.reduceDiv, Nat.reduceMod, Nat.reduceLT, Nat.reduceLeDiff, Nat.reduceEqDiff, Nat.reduceBEq, Nat.reduceBNe, Nat.reduceGT, Int.reduceAdd, Int.reduceSub, Int.reduceMul, Int.reduceNeg, Int.reduceLT, Int.reduceLE, Int.reduceEq, Int.reduceNe, Int.reduceBEq, Int.reduceBNe, Int.reduceToNat, Int.reduceGT, Int.reduceGE, ↓reduceIte, decide_true, decide_false, eq_self, Nat.mul_one, Nat.zero_mul, Nat.one_mul, Int.le_refl, Nat.le_refl, Int.cast_ofNat_Int, v0, o0]
        · by_cases hlt : (c : Int) - 2000 ≤ 2000
          · have hcc : IntKind.i64.wrap ((c : Int) - 2000 + 1) = ((c + 1 : Nat) : Int) - 2000 := by rw [wrap_in (by omega) (by omega)]; omega
            have hsu := surfTo_succ l c
            unfold surfStep at hsu
            rcases snoc_cases (surfTo l c) with hn | ⟨i, y, hn⟩
            · have v0 : outV (surfTo l c) = .t .nilSl := by rw [hn]; rfl
              have o0 : outH (surfTo l c) = [] := by rw [hn]; rfl
              simp (decide := true) (maxSteps := 4000000) only [go_sem, Nat.reduceAdd, Nat.reduceSub, Nat.reduceMul, Nat.reduceDiv, Nat.reduceMod, Nat.reduceLT, Nat.reduceLeDiff, Nat.reduceEqDiff, Nat.reduceBEq, Nat.reduceBNe, Nat.reduceGT, Int.reduceAdd, Int.reduceSub, Int.reduceMul, Int.reduceNeg, Int.reduceLT, Int.reduceLE, Int.reduceEq, Int.reduceNe, Int.reduceBEq, Int.reduceBNe, Int.reduceToNat, Int.reduceGT, Int.reduceGE, ↓reduceIte, decide_true, decide_false, eq_self, Nat.mul_one, Nat.zero_mul, Nat.one_mul, Int.le_refl, Nat.le_refl, Int.cast_ofNat_Int, hlt, v0, o0]
              refine pwpC_loopU (A := { k : Nat // k ≤ l.length ∧ (l.take k).all (fun f => agB f ((c : Int) - 2000)) = true }) [0, 6, 7, 30, 31] (fun k => [(32, .t (.int .i64 k.1))]) (fun _ => []) (fun k => l.length - k.1) ⟨0, by omega, rfl⟩ (by decide) (fun _ => by rfl) ?_ fun Q3 hQ3 ⟨k, hk, hka2⟩ I3 hI3 => ?_
              · simp (decide := true) (maxSteps := 4000000) only [go_sem, Nat.reduceAdd, Nat.reduceSub, Nat.reduceMul, Nat.reduceDiv, Nat.reduceMod, Nat.reduceLT, Nat.reduceLeDiff, Nat.reduceEqDiff, Nat.reduceBEq, Nat.reduceBNe, Nat.reduceGT, Int.reduceAdd, Int.reduceSub, Int.reduceMul, Int.reduceNeg, Int.reduceLT, Int.reduceLE, Int.reduceEq, Int.reduceNe, Int.reduceBEq, Int.reduceBNe, Int.reduceToNat, Int.reduceGT, Int.reduceGE, ↓reduceIte, decide_true, decide_false, eq_self, Nat.mul_one, Nat.zero_mul, Nat.one_mul, Int.le_refl, Nat.le_refl, Int.cast_ofNat_Int, v0, o0]
              · by_cases hlt3 : (k : Int) < l.length
                · obtain ⟨x, hx⟩ := get_lt hlt3
                  have hd := flat_at Fr.cs (n := 5) (fun _ => rfl) hx
                  have hc1 : IntKind.i64.wrap (k + 1) = ((k + 1 : Nat) : Int) := by rw [wrap_in (by omega) (by omega)]; omega
                  have hok := hmem x (List.mem_of_getElem? hx)
                  have ht := take_all (fun f => agB f ((c : Int) - 2000)) hx
                  rw [hka2, Bool.true_and] at ht
                  rcases (Bool.eq_false_or_eq_true (agB x ((c : Int) - 2000))).symm with hag | hag
                  · have hfa : frAll l ((c : Int) - 2000) = false := all_of_take (k := k + 1) (by rw [ht]; exact hag)
                    rw [hfa] at hsu
                    simp only [Bool.false_eq_true, if_false] at hsu
                    simp (decide := true) (maxSteps := 4000000) only [go_sem, Nat.reduceAdd, Nat.reduceSub, Nat.reduceMul, Nat.reduceDiv, Nat.reduceMod, Nat.reduceLT, Nat.reduceLeDiff, Nat.reduceEqDiff, Nat.reduceBEq, Nat.reduceBNe, Nat.reduceGT, Int.reduceAdd, Int.reduceSub, Int.reduceMul, Int.reduceNeg, Int.reduceLT, Int.reduceLE, Int.reduceEq, Int.reduceNe, Int.reduceBEq, Int.reduceBNe, Int.reduceToNat, Int.reduceGT, Int.reduceGE, ↓reduceIte, decide_true, decide_false, eq_self, Nat.mul_one, Nat.zero_mul, Nat.one_mul, Int.le_refl, Nat.le_refl, Int.cast_ofNat_Int, hlt3, hd, Fr.cs, hok, hag, v0, o0]
                    refine hQ3 _ _ ?_
                    simp (decide := true) (maxSteps := 4000000) only [go_sem, Nat.reduceAdd, Nat.reduceSub, Nat.reduceMul, Nat.reduceDiv, Nat.reduceMod, Nat.reduceLT, Nat.reduceLeDiff, Nat.reduceEqDiff, Nat.reduceBEq, Nat.reduceBNe, Nat.reduceGT, Int.reduceAdd, Int.reduceSub, Int.reduceMul, Int.reduceNeg, Int.reduceLT, Int.reduceLE, Int.reduceEq, Int.reduceNe, Int.reduceBEq, Int.reduceBNe, Int.reduceToNat, Int.reduceGT, Int.reduceGE, ↓reduceIte, decide_true, decide_false, eq_self, Nat.mul_one, Nat.zero_mul, Nat.one_mul, Int.le_refl, Nat.le_refl, Int.cast_ofNat_Int]
                    refine hI2 _ ⟨c + 1, by omega⟩ (by simp only; omega) ?_
                    simp (decide := true) (maxSteps := 4000000) only [go_sem, Nat.reduceAdd, Nat.reduceSub, Nat.reduceMul, Nat.reduceDiv, Nat.reduceMod, Nat.reduceLT, Nat.reduceLeDiff, Nat.reduceEqDiff, Nat.reduceBEq, Nat.reduceBNe, Nat.reduceGT, Int.reduceAdd, Int.reduceSub, Int.reduceMul, Int.reduceNeg, Int.reduceLT, Int.reduceLE, Int.reduceEq, Int.reduceNe, Int.reduceBEq, Int.reduceBNe, Int.reduceToNat, Int.reduceGT, Int.reduceGE, ↓reduceIte, decide_true, decide_false, eq_self, Nat.mul_one, Nat.zero_mul, Nat.one_mul, Int.le_refl, Nat.le_refl, Int.cast_ofNat_Int, hcc, hsu, v0, o0]
                  · simp (decide := true) (maxSteps := 4000000) only [go_sem, Nat.reduceAdd, Nat.reduceSub, Nat.reduceMul, Nat.reduceDiv, Nat.reduceMod, Nat.reduceLT, Nat.reduceLeDiff, Nat.reduceEqDiff, Nat.reduceBEq, Nat.reduceBNe, Nat.reduceGT, Int.reduceAdd, Int.reduceSub, Int.reduceMul, Int.reduceNeg, Int.reduceLT, Int.reduceLE, Int.reduceEq, Int.reduceNe, Int.reduceBEq, Int.reduceBNe, Int.reduceToNat, Int.reduceGT, Int.reduceGE, ↓reduceIte, decide_true, decide_false, eq_self, Nat.mul_one, Nat.zero_mul, Nat.one_mul, Int.le_refl, Nat.le_refl, Int.cast_ofNat_Int, hlt3, hd, Fr.cs, hok, hag, v0, o0]
                    refine hI3 _ ⟨k + 1, by omega, by rw [ht]; exact hag⟩ (by simp only; omega) ?_
                    simp (decide := true) (maxSteps := 4000000) only [go_sem, Nat.reduceAdd, Nat.reduceSub, Nat.reduceMul, Nat.reduceDiv, Nat.reduceMod, Nat.reduceLT, Nat.reduceLeDiff, Nat.reduceEqDiff, Nat.reduceBEq, Nat.reduceBNe, Nat.reduceGT, Int.reduceAdd, Int.reduceSub, Int.reduceMul, Int.reduceNeg, Int.reduceLT, Int.reduceLE, Int.reduceEq, Int.reduceNe, Int.reduceBEq, Int.reduceBNe, Int.reduceToNat, Int.reduceGT, Int.reduceGE, ↓reduceIte, decide_true, decide_false, eq_self, Nat.mul_one, Nat.zero_mul, Nat.one_mul, Int.le_refl, Nat.le_refl, Int.cast_ofNat_Int, hc1, v0, o0]
                · have hke : k = l.length := by omega
                  subst hke
                  rw [List.take_length] at hka2
                  have hfa : frAll l ((c : Int) - 2000) = true := hka2
                  rw [hfa] at hsu
                  simp only [if_true] at hsu
                  simp (decide := true) (maxSteps := 4000000) only [go_sem, Nat.reduceAdd, Nat.reduceSub, Nat.reduceMul, Nat.reduceDiv, Nat.reduceMod, Nat.reduceLT, Nat.reduceLeDiff, Nat.reduceEqDiff, Nat.reduceBEq, Nat.reduceBNe, Nat.reduceGT, Int.reduceAdd, Int.reduceSub, Int.reduceMul, Int.reduceNeg, Int.reduceLT, Int.reduceLE, Int.reduceEq, Int.reduceNe, Int.reduceBEq, Int.reduceBNe, Int.reduceToNat, Int.reduceGT, Int.reduceGE, ↓reduceIte, decide_true, decide_false, eq_self, Nat.mul_one, Nat.zero_mul, Nat.one_mul, Int.le_refl, Nat.le_refl, Int.cast_ofNat_Int, hlt3, v0, o0]
                  refine hQ3 _ _ ?_
                  rw [hn] at hsu
                  simp only [List.getLast?_nil] at hsu
                  have v1 : outV (surfTo l (c + 1)) = .gsl 1 0 2 0 1 false := by rw [hsu]; rfl
                  have o1 : outH (surfTo l (c + 1)) = [(0, .grow 0 [.junk, .junk] 29 2), (1, .grow 0 [.t (.int .i64 ((c : Int) - 2000)), .t (.int .i64 ((c : Int) - 2000))] 29 2)] := by rw [hsu]; rfl
                  simp (decide := true) (maxSteps := 4000000) only [go_sem, Nat.reduceAdd, Nat.reduceSub, Nat.reduceMul, Nat.reduceDiv, Nat.reduceMod, Nat.reduceLT, Nat.reduceLeDiff, Nat.reduceEqDiff, Nat.reduceBEq, Nat.reduceBNe, Nat.reduceGT, Int.reduceAdd, Int.reduceSub, Int.reduceMul, Int.reduceNeg, Int.reduceLT, Int.reduceLE, Int.reduceEq, Int.reduceNe, Int.reduceBEq, Int.reduceBNe, Int.reduceToNat, Int.reduceGT, Int.reduceGE, ↓reduceIte, decide_true, decide_false, eq_self, Nat.mul_one, Nat.zero_mul, Nat.one_mul, Int.le_refl, Nat.le_refl, Int.cast_ofNat_Int, v0, o0]
                  refine hI2 _ ⟨c + 1, by omega⟩ (by simp only; omega) ?_
                  simp (decide := true) (maxSteps := 4000000) only [go_sem, Nat.reduceAdd, Nat.reduceSub, Nat.reduceMul, Nat.reduceDiv, Nat.reduceMod, Nat.reduceLT, Nat.reduceLeDiff, Nat.reduceEqDiff, Nat.reduceBEq, Nat.reduceBNe, Nat.reduceGT, Int.reduceAdd, Int.reduceSub, Int.reduceMul, Int.reduceNeg, Int.reduceLT, Int.reduceLE, Int.reduceEq, Int.reduceNe, Int.reduceBEq, Int.reduceBNe, Int.reduceToNat, Int.reduceGT, Int.reduceGE, ↓reduceIte, decide_true, decide_false, eq_self, Nat.mul_one, Nat.zero_mul, Nat.one_mul, Int.le_refl, Nat.le_refl, Int.cast_ofNat_Int, hcc, v1, o1]
            · obtain ⟨m, hm⟩ : ∃ m, i.length = m := ⟨_, rfl⟩
              have hml := surf_len l c
              rw [hn, List.length_append, hm, List.length_cons, List.length_nil] at hml
              have v0 : outV (surfTo l c) = .gsl 1 m 2 0 (m + 1) false := by rw [hn]; unfold outV; simp [hm]
              have o0 : outH (surfTo l c) = [(0, .grow 0 [.junk, .junk] 29 2), (1, .grow m (((i.flatMap Span.cs).map .t) ++ [.t (.int .i64 y.lo), .t (.int .i64 y.hi)]) 29 2)] := by rw [hn]; unfold outH; simp [hm, Span.cs]
              have hcw : ∀ L : List PO, cellsW L ((i.flatMap Span.cs).map PV.t ++ [PV.t (.int .i64 y.lo), PV.t (.int .i64 y.hi)]) ((i.flatMap Span.cs).map PV.t ++ [PV.t (.int .i64 y.lo), PV.t (.int .i64 y.hi)]) = True := fun L => eq_true (by
                have := cellsW_tt L (i.flatMap Span.cs ++ [.int .i64 y.lo, .int .i64 y.hi])
                simpa using this)
              have hun2 : ((i.flatMap Span.cs).map PV.t ++ [PV.t (.int .i64 y.lo), PV.t (.int .i64 ((c : Int) - 2000))]).all (PV.under 2) = true := by simp [PV.under]
              have hcw2 : ∀ L : List PO, cellsW L ((i.flatMap Span.cs).map PV.t ++ [PV.t (.int .i64 y.lo), PV.t (.int .i64 ((c : Int) - 2000))]) ((i.flatMap Span.cs).map PV.t ++ [PV.t (.int .i64 y.lo), PV.t (.int .i64 ((c : Int) - 2000))]) = True := fun L => eq_true (by
                have := cellsW_tt L (i.flatMap Span.cs ++ [.int .i64 y.lo, .int .i64 ((c : Int) - 2000)])
                simpa using this)
              have hun3 : ((i.flatMap Span.cs).map PV.t ++ [PV.t (.int .i64 y.lo), PV.t (.int .i64 y.hi)] ++ [PV.t (.int .i64 ((c : Int) - 2000)), PV.t (.int .i64 ((c : Int) - 2000))]).all (PV.under 2) = true := by simp [PV.under]
              have hcw3 : ∀ L : List PO, cellsW L ((i.flatMap Span.cs).map PV.t ++ [PV.t (.int .i64 y.lo), PV.t (.int .i64 y.hi)] ++ [PV.t (.int .i64 ((c : Int) - 2000)), PV.t (.int .i64 ((c : Int) - 2000))]) ((i.flatMap Span.cs).map PV.t ++ [PV.t (.int .i64 y.lo), PV.t (.int .i64 y.hi)] ++ [PV.t (.int .i64 ((c : Int) - 2000)), PV.t (.int .i64 ((c : Int) - 2000))]) = True := fun L => eq_true (by
                have := cellsW_tt L (i.flatMap Span.cs ++ [.int .i64 y.lo, .int .i64 y.hi] ++ [.int .i64 ((c : Int) - 2000), .int .i64 ((c : Int) - 2000)])
                simpa using this)
              obtain ⟨q1, q2, q3⟩ := surf_cells i y ((c : Int) - 2000) hm
              have wm : IntKind.i64.wrap (((m + 1 : Nat) : Int) - 1) = (m : Int) := by rw [wrap_in (by omega) (by omega)]; omega
              have m0 : (0 : Int) ≤ m := by omega
              have m1 : (m : Int) < ((m + 1 : Nat) : Int) := by omega
              have m2 : ((m + 1 : Nat) : Int) > 0 := by omega
              have hle : m * 2 + 1 + 1 ≤ (m + 1) * 2 := by omega
              have hroom : (m + 1 + 1) * 16 ≤ 140737488355328 := by omega
              have wc : IntKind.i64.wrap ((c : Int) - 2000 - 1) = (c : Int) - 2000 - 1 := wrap_in (by omega) (by omega)
              have hun : ((i.flatMap Span.cs).map PV.t ++ [PV.t (.int .i64 y.lo), PV.t (.int .i64 y.hi)]).all (PV.under 2) = true := by simp [PV.under]
              simp (decide := true) (maxSteps := 4000000) only [go_sem, Nat.reduceAdd, Nat.reduceSub, Nat.reduceMul, Nat.reduceDiv, Nat.reduceMod, Nat.reduceLT, Nat.reduceLeDiff, Nat.reduceEqDiff, Nat.reduceBEq, Nat.reduceBNe, Nat.reduceGT, Int.reduceAdd, Int.reduceSub, Int.reduceMul, Int.reduceNeg, Int.reduceLT, Int.reduceLE, Int.reduceEq, Int.reduceNe, Int.reduceBEq, Int.reduceBNe, Int.reduceToNat, Int.reduceGT, Int.reduceGE, ↓reduceIte, decide_true, decide_false, eq_self, Nat.mul_one, Nat.zero_mul, Nat.one_mul, Int.le_refl, Nat.le_refl, Int.cast_ofNat_Int, hlt, v0, o0, hun, hcw]
              refine pwpC_loopU (A := { k : Nat // k ≤ l.length ∧ (l.take k).all (fun f => agB f ((c : Int) - 2000)) = true }) [0, 6, 7, 30, 31] (fun k => [(32, .t (.int .i64 k.1))]) (fun _ => []) (fun k => l.length - k.1) ⟨0, by omega, rfl⟩ (by decide) (fun _ => by rfl) ?_ fun Q3 hQ3 ⟨k, hk, hka2⟩ I3 hI3 => ?_
              · simp (decide := true) (maxSteps := 4000000) only [go_sem, Nat.reduceAdd, Nat.reduceSub, Nat.reduceMul, Nat.reduceDiv, Nat.reduceMod, Nat.reduceLT, Nat.reduceLeDiff, Nat.reduceEqDiff, Nat.reduceBEq, Nat.reduceBNe, Nat.reduceGT, Int.reduceAdd, Int.reduceSub, Int.reduceMul, Int.reduceNeg, Int.reduceLT, Int.reduceLE, Int.reduceEq, Int.reduceNe, Int.reduceBEq, Int.reduceBNe, Int.reduceToNat, Int.reduceGT, Int.reduceGE, ↓reduceIte, decide_true, decide_false, eq_self, Nat.mul_one, Nat.zero_mul, Nat.one_mul, Int.le_refl, Nat.le_refl, Int.cast_ofNat_Int, v0, o0, hun, hcw]
              · by_cases hlt3 : (k : Int) < l.length
                · obtain ⟨x, hx⟩ := get_lt hlt3
                  have hd := flat_at Fr.cs (n := 5) (fun _ => rfl) hx
                  have hc1 : IntKind.i64.wrap (k + 1) = ((k + 1 : Nat) : Int) := by rw [wrap_in (by omega) (by omega)]; omega
                  have hok := hmem x (List.mem_of_getElem? hx)
                  have ht := take_all (fun f => agB f ((c : Int) - 2000)) hx
                  rw [hka2, Bool.true_and] at ht
                  rcases (Bool.eq_false_or_eq_true (agB x ((c : Int) - 2000))).symm with hag | hag
                  · have hfa : frAll l ((c : Int) - 2000) = false := all_of_take (k := k + 1) (by rw [ht]; exact hag)
                    rw [hfa] at hsu
                    simp only [Bool.false_eq_true, if_false] at hsu
                    simp (decide := true) (maxSteps := 4000000) only [go_sem, Nat.reduceAdd, Nat.reduceSub, Nat.reduceMul, Nat.reduceDiv, Nat.reduceMod, Nat.reduceLT, Nat.reduceLeDiff, Nat.reduceEqDiff, Nat.reduceBEq, Nat.reduceBNe, Nat.reduceGT, Int.reduceAdd, Int.reduceSub, Int.reduceMul, Int.reduceNeg, Int.reduceLT, Int.reduceLE, Int.reduceEq, Int.reduceNe, Int.reduceBEq, Int.reduceBNe, Int.reduceToNat, Int.reduceGT, Int.reduceGE, ↓reduceIte, decide_true, decide_false, eq_self, Nat.mul_one, Nat.zero_mul, Nat.one_mul, Int.le_refl, Nat.le_refl, Int.cast_ofNat_Int, hlt3, hd, Fr.cs, hok, hag, v0, o0, hun, hcw]
                    refine hQ3 _ _ ?_
                    simp (decide := true) (maxSteps := 4000000) only [go_sem, Nat.reduceAdd, Nat.reduceSub, Nat.reduceMul, Nat.reduceDiv, Nat.reduceMod, Nat.reduceLT, Nat.reduceLeDiff, Nat.reduceEqDiff, Nat.reduceBEq, Nat.reduceBNe, Nat.reduceGT, Int.reduceAdd, Int.reduceSub, Int.reduceMul, Int.reduceNeg, Int.reduceLT, Int.reduceLE, Int.reduceEq, Int.reduceNe, Int.reduceBEq, Int.reduceBNe, Int.reduceToNat, Int.reduceGT, Int.reduceGE, ↓reduceIte, decide_true, decide_false, eq_self, Nat.mul_one, Nat.zero_mul, Nat.one_mul, Int.le_refl, Nat.le_refl, Int.cast_ofNat_Int]
                    refine hI2 _ ⟨c + 1, by omega⟩ (by simp only; omega) ?_
                    simp (decide := true) (maxSteps := 4000000) only [go_sem, Nat.reduceAdd, Nat.reduceSub, Nat.reduceMul, Nat.reduceDiv, Nat.reduceMod, Nat.reduceLT, Nat.reduceLeDiff, Nat.reduceEqDiff, Nat.reduceBEq, Nat.reduceBNe, Nat.reduceGT, Int.reduceAdd, Int.reduceSub, Int.reduceMul, Int.reduceNeg, Int.reduceLT, Int.reduceLE, Int.reduceEq, Int.reduceNe, Int.reduceBEq, Int.reduceBNe, Int.reduceToNat, Int.reduceGT, Int.reduceGE, ↓reduceIte, decide_true, decide_false, eq_self, Nat.mul_one, Nat.zero_mul, Nat.one_mul, Int.le_refl, Nat.le_refl, Int.cast_ofNat_Int, hcc, hsu, v0, o0, hun, hcw]
                  · simp (decide := true) (maxSteps := 4000000) only [go_sem, Nat.reduceAdd, Nat.reduceSub, Nat.reduceMul, Nat.reduceDiv, Nat.reduceMod, Nat.reduceLT, Nat.reduceLeDiff, Nat.reduceEqDiff, Nat.reduceBEq, Nat.reduceBNe, Nat.reduceGT, Int.reduceAdd, Int.reduceSub, Int.reduceMul, Int.reduceNeg, Int.reduceLT, Int.reduceLE, Int.reduceEq, Int.reduceNe, Int.reduceBEq, Int.reduceBNe, Int.reduceToNat, Int.reduceGT, Int.reduceGE, ↓reduceIte, decide_true, decide_false, eq_self, Nat.mul_one, Nat.zero_mul, Nat.one_mul, Int.le_refl, Nat.le_refl, Int.cast_ofNat_Int, hlt3, hd, Fr.cs, hok, hag, v0, o0, hun, hcw]
                    refine hI3 _ ⟨k + 1, by omega, by rw [ht]; exact hag⟩ (by simp only; omega) ?_
                    simp (decide := true) (maxSteps := 4000000) only [go_sem, Nat.reduceAdd, Nat.reduceSub, Nat.reduceMul, Nat.reduceDiv, Nat.reduceMod, Nat.reduceLT, Nat.reduceLeDiff, Nat.reduceEqDiff, Nat.reduceBEq, Nat.reduceBNe, Nat.reduceGT, Int.reduceAdd, Int.reduceSub, Int.reduceMul, Int.reduceNeg, Int.reduceLT, Int.reduceLE, Int.reduceEq, Int.reduceNe, Int.reduceBEq, Int.reduceBNe, Int.reduceToNat, Int.reduceGT, Int.reduceGE, ↓reduceIte, decide_true, decide_false, eq_self, Nat.mul_one, Nat.zero_mul, Nat.one_mul, Int.le_refl, Nat.le_refl, Int.cast_ofNat_Int, hc1, v0, o0, hun, hcw]
                · have hke : k = l.length := by omega
                  subst hke
                  rw [List.take_length] at hka2
                  have hfa : frAll l ((c : Int) - 2000) = true := hka2
                  rw [hfa] at hsu
                  simp only [if_true] at hsu
                  simp (decide := true) (maxSteps := 4000000) only [go_sem, Nat.reduceAdd, Nat.reduceSub, Nat.reduceMul, Nat.reduceDiv, Nat.reduceMod, Nat.reduceLT, Nat.reduceLeDiff, Nat.reduceEqDiff, Nat.reduceBEq, Nat.reduceBNe, Nat.reduceGT, Int.reduceAdd, Int.reduceSub, Int.reduceMul, Int.reduceNeg, Int.reduceLT, Int.reduceLE, Int.reduceEq, Int.reduceNe, Int.reduceBEq, Int.reduceBNe, Int.reduceToNat, Int.reduceGT, Int.reduceGE, ↓reduceIte, decide_true, decide_false, eq_self, Nat.mul_one, Nat.zero_mul, Nat.one_mul, Int.le_refl, Nat.le_refl, Int.cast_ofNat_Int, hlt3, v0, o0, hun, hcw]
                  refine hQ3 _ _ ?_
                  rw [hn, List.getLast?_append] at hsu
                  simp only [List.getLast?_singleton, Option.some_or] at hsu
                  by_cases hy : y.hi = (c : Int) - 2000 - 1
                  · have hy' : (y.hi == (c : Int) - 2000 - 1) = true := beq_int_t hy
                    rw [if_pos hy, List.dropLast_concat] at hsu
                    have v1 : outV (surfTo l (c + 1)) = .gsl 1 m 2 0 (m + 1) false := by rw [hsu]; unfold outV; simp [hm]
                    have o1 : outH (surfTo l (c + 1)) = [(0, .grow 0 [.junk, .junk] 29 2), (1, .grow m (((i.flatMap Span.cs).map .t) ++ [.t (.int .i64 y.lo), .t (.int .i64 ((c : Int) - 2000))]) 29 2)] := by rw [hsu]; unfold outH; simp [hm, Span.cs]
                    simp (decide := true) (maxSteps := 4000000) only [go_sem, Nat.reduceAdd, Nat.reduceSub, Nat.reduceMul, Nat.reduceDiv, Nat.reduceMod, Nat.reduceLT, Nat.reduceLeDiff, Nat.reduceEqDiff, Nat.reduceBEq, Nat.reduceBNe, Nat.reduceGT, Int.reduceAdd, Int.reduceSub, Int.reduceMul, Int.reduceNeg, Int.reduceLT, Int.reduceLE, Int.reduceEq, Int.reduceNe, Int.reduceBEq, Int.reduceBNe, Int.reduceToNat, Int.reduceGT, Int.reduceGE, ↓reduceIte, decide_true, decide_false, eq_self, Nat.mul_one, Nat.zero_mul, Nat.one_mul, Int.le_refl, Nat.le_refl, Int.cast_ofNat_Int, v0, o0, wm, m0, m1, m2, wc, q1, q2, q3, hle, hroom, hy', Int.toNat_natCast]
                    refine hI2 _ ⟨c + 1, by omega⟩ (by simp only; omega) ?_
                    simp (decide := true) (maxSteps := 4000000) only [go_sem, Nat.reduceAdd, Nat.reduceSub, Nat.reduceMul, Nat.reduceDiv, Nat.reduceMod, Nat.reduceLT, Nat.reduceLeDiff, Nat.reduceEqDiff, Nat.reduceBEq, Nat.reduceBNe, Nat.reduceGT, Int.reduceAdd, Int.reduceSub, Int.reduceMul, Int.reduceNeg, Int.reduceLT, Int.reduceLE, Int.reduceEq, Int.reduceNe, Int.reduceBEq, Int.reduceBNe, Int.reduceToNat, Int.reduceGT, Int.reduceGE, ↓reduceIte, decide_true, decide_false, eq_self, Nat.mul_one, Nat.zero_mul, Nat.one_mul, Int.le_refl, Nat.le_refl, Int.cast_ofNat_Int, hcc, v1, o1, hun2, hcw2]
                  · have hy' : (y.hi == (c : Int) - 2000 - 1) = false := beq_int_f hy
                    rw [if_neg hy] at hsu
                    have v1 : outV (surfTo l (c + 1)) = .gsl 1 (m + 1) 2 0 (m + 1 + 1) false := by rw [hsu]; unfold outV; simp [hm]
                    have o1 : outH (surfTo l (c + 1)) = [(0, .grow 0 [.junk, .junk] 29 2), (1, .grow (m + 1) (((i.flatMap Span.cs).map .t) ++ [.t (.int .i64 y.lo), .t (.int .i64 y.hi)] ++ [.t (.int .i64 ((c : Int) - 2000)), .t (.int .i64 ((c : Int) - 2000))]) 29 2)] := by rw [hsu]; unfold outH; simp [hm, Span.cs]
                    simp (decide := true) (maxSteps := 4000000) only [go_sem, Nat.reduceAdd, Nat.reduceSub, Nat.reduceMul, Nat.reduceDiv, Nat.reduceMod, Nat.reduceLT, Nat.reduceLeDiff, Nat.reduceEqDiff, Nat.reduceBEq, Nat.reduceBNe, Nat.reduceGT, Int.reduceAdd, Int.reduceSub, Int.reduceMul, Int.reduceNeg, Int.reduceLT, Int.reduceLE, Int.reduceEq, Int.reduceNe, Int.reduceBEq, Int.reduceBNe, Int.reduceToNat, Int.reduceGT, Int.reduceGE, ↓reduceIte, decide_true, decide_false, eq_self, Nat.mul_one, Nat.zero_mul, Nat.one_mul, Int.le_refl, Nat.le_refl, Int.cast_ofNat_Int, v0, o0, wm, m0, m1, m2, wc, q1, q2, q3, hle, hroom, hy', Int.toNat_natCast]
                    refine hI2 _ ⟨c + 1, by omega⟩ (by simp only; omega) ?_
                    simp (decide := true) (maxSteps := 4000000) only [go_sem, Nat.reduceAdd, Nat.reduceSub, Nat.reduceMul, Nat.reduceDiv, Nat.reduceMod, Nat.reduceLT, Nat.reduceLeDiff, Nat.reduceEqDiff, Nat.reduceBEq, Nat.reduceBNe, Nat.reduceGT, Int.reduceAdd, Int.reduceSub, Int.reduceMul, Int.reduceNeg, Int.reduceLT, Int.reduceLE, Int.reduceEq, Int.reduceNe, Int.reduceBEq, Int.reduceBNe, Int.reduceToNat, Int.reduceGT, Int.reduceGE, ↓reduceIte, decide_true, decide_false, eq_self, Nat.mul_one, Nat.zero_mul, Nat.one_mul, Int.le_refl, Nat.le_refl, Int.cast_ofNat_Int, hcc, v1, o1, hun3, hcw3]
          · have hce : c = 4001 := by omega
            subst hce
            simp (decide := true) (maxSteps := 4000000) only [go_sem, Nat.reduceAdd, Nat.reduceSub, Nat.reduceMul, Nat.reduceDiv, Nat.reduceMod, Nat.reduceLT, Nat.reduceLeDiff, Nat.reduceEqDiff, Nat.reduceBEq, Nat.reduceBNe, Nat.reduceGT, Int.reduceAdd, Int.reduceSub, Int.reduceMul, Int.reduceNeg, Int.reduceLT, Int.reduceLE, Int.reduceEq, Int.reduceNe, Int.reduceBEq, Int.reduceBNe, Int.reduceToNat, Int.reduceGT, Int.reduceGE, ↓reduceIte, decide_true, decide_false, eq_self, Nat.mul_one, Nat.zero_mul, Nat.one_mul, Int.le_refl, Nat.le_refl, Int.cast_ofNat_Int, hlt]
            refine hQ2 _ _ ?_
            rcases snoc_cases (surfTo l 4001) with hn | ⟨i, y, hn⟩
            · have v0 : outV (surfTo l 4001) = .t .nilSl := by rw [hn]; rfl
              have o0 : outH (surfTo l 4001) = [] := by rw [hn]; rfl
              have hne : (surfTo l 4001 = []) = True := eq_true hn
              simp (decide := true) (maxSteps := 4000000) only [go_sem, Nat.reduceAdd, Nat.reduceSub, Nat.reduceMul, Nat.reduceDiv, Nat.reduceMod, Nat.reduceLT, Nat.reduceLeDiff, Nat.reduceEqDiff, Nat.reduceBEq, Nat.reduceBNe, Nat.reduceGT, Int.reduceAdd, Int.reduceSub, Int.reduceMul, Int.reduceNeg, Int.reduceLT, Int.reduceLE, Int.reduceEq, Int.reduceNe, Int.reduceBEq, Int.reduceBNe, Int.reduceToNat, Int.reduceGT, Int.reduceGE, ↓reduceIte, decide_true, decide_false, eq_self, Nat.mul_one, Nat.zero_mul, Nat.one_mul, Int.le_refl, Nat.le_refl, Int.cast_ofNat_Int, v0, o0, hne, List.length_nil]
            · obtain ⟨m, hm⟩ : ∃ m, i.length = m := ⟨_, rfl⟩
              have v0 : outV (surfTo l 4001) = .gsl 1 m 2 0 (m + 1) false := by rw [hn]; unfold outV; simp [hm]
              have o0 : outH (surfTo l 4001) = [(0, .grow 0 [.junk, .junk] 29 2), (1, .grow m (((i.flatMap Span.cs).map .t) ++ [.t (.int .i64 y.lo), .t (.int .i64 y.hi)]) 29 2)] := by rw [hn]; unfold outH; simp [hm, Span.cs]
              have hne : ¬ surfTo l 4001 = [] := by rw [hn]; simp
              have hll : (surfTo l 4001).length = m + 1 := by rw [hn]; simp [hm]
              have m0 : ¬ m + 1 = 0 := by omega
              have m1 : (0 : Int) ≤ ((m + 1 : Nat) : Int) := by omega
              have hids : ((i.flatMap Span.cs).map PV.t ++ [PV.t (.int .i64 y.lo), PV.t (.int .i64 y.hi)]).flatMap idsG = [] := by
                have := idsG_tt (i.flatMap Span.cs ++ [.int .i64 y.lo, .int .i64 y.hi])
                simpa using this
              have hth : ∀ h : Hp, allO (((i.flatMap Span.cs).map PV.t ++ [PV.t (.int .i64 y.lo), PV.t (.int .i64 y.hi)]).map (thawC h)) = some ((surfTo l 4001).flatMap Span.cs) := by
                intro h
                have := thawC_tt h (i.flatMap Span.cs ++ [.int .i64 y.lo, .int .i64 y.hi])
                rw [hn]
                simpa [Span.cs] using this
              have hfl : ((surfTo l 4001).flatMap Span.cs).length = (m + 1) * 2 := by rw [flat_len Span.cs (n := 2) (fun _ => rfl), hll]
              have htk : ((surfTo l 4001).flatMap Span.cs).take ((m + 1) * 2) = (surfTo l 4001).flatMap Span.cs := List.take_of_length_le (by omega)
              have hall : allO (((i.flatMap Span.cs).map PV.t ++ [PV.t (.int .i64 y.lo), PV.t (.int .i64 y.hi)]).map PV.toT) = some ((surfTo l 4001).flatMap Span.cs) := by
                have := allO_t (i.flatMap Span.cs ++ [.int .i64 y.lo, .int .i64 y.hi])
                rw [hn]
                simpa [Span.cs] using this
              simp (decide := true) (maxSteps := 4000000) only [go_sem, Nat.reduceAdd, Nat.reduceSub, Nat.reduceMul, Nat.reduceDiv, Nat.reduceMod, Nat.reduceLT, Nat.reduceLeDiff, Nat.reduceEqDiff, Nat.reduceBEq, Nat.reduceBNe, Nat.reduceGT, Int.reduceAdd, Int.reduceSub, Int.reduceMul, Int.reduceNeg, Int.reduceLT, Int.reduceLE, Int.reduceEq, Int.reduceNe, Int.reduceBEq, Int.reduceBNe, Int.reduceToNat, Int.reduceGT, Int.reduceGE, ↓reduceIte, decide_true, decide_false, eq_self, Nat.mul_one, Nat.zero_mul, Nat.one_mul, Int.le_refl, Nat.le_refl, Int.cast_ofNat_Int, hids, hall, hth, hfl, htk, thawA, List.drop_zero, Nat.zero_add, List.foldl_nil, List.foldl_cons, v0, o0, hne, hll, m0, m1, Int.toNat_natCast, Nat.sub_zero, sliceG, Option.isSome_some, freezeW, freezeO, closedG, seenF, wr, upo]
end Go.Proofs.Ytadkjjnnnkfalaa.Gl
