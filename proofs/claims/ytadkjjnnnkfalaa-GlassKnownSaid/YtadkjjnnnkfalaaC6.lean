/- What the claim leans on, text 6. -/
import Derived.Test.YtadkjjnnnkfalaaC5
set_option linter.unusedSimpArgs false
set_option linter.unusedVariables false

/- Part Gh. -/
namespace Go.Oc.Gl
end Go.Oc.Gl
namespace Go.Proofs.Ytadkjjnnnkfalaa.Gl
end Go.Proofs.Ytadkjjnnnkfalaa.Gl
namespace Go.Oc.Gl
open Go Go.Pm
def exS : List Blank := [⟨⟨50000, 50010⟩, ⟨800, 800⟩, 9⟩, ⟨⟨60000, 60000⟩, ⟨1600, 1600⟩, 12⟩]
def exT : List Span := [⟨20, 20⟩, ⟨-20, -20⟩, ⟨-1, 1⟩]
def exO : Ob := ⟨0, 1, 0, 1, 2⟩
end Go.Oc.Gl
namespace Go.Proofs.Ytadkjjnnnkfalaa.Gl
open Go.RowKit Go.Pm Go.Oc Go.Oc.Gl
set_option maxRecDepth 100000
set_option linter.unusedVariables false
set_option maxHeartbeats 4000000

theorem SameSpans_c {a b : List Span} {s t : TV} (hs : IsRow Span.cs s a) (ht : IsRow Span.cs t b) (ha : a.length ≤ 9223372036854775806) : PCalls Try.prog 18 [s, t] (.bool (decide (a = b))) := by
  refine pcalls_by Try.mixes noSpec_ok (fn := Try.f18) Try.func18 rfl (by kernel_rfl) (by show 2 ≤ _; decide) ?_
  by_cases hl : a.length = b.length
  · by_cases h0 : a.length = 0
    · have ea : a = [] := List.length_eq_zero_iff.1 h0
      have eb : b = [] := List.length_eq_zero_iff.1 (by omega)
      subst ea; subst eb
      rcases hs with ⟨rfl, _⟩ | ⟨f1, rfl⟩ <;> rcases ht with ⟨rfl, _⟩ | ⟨f2, rfl⟩
      all_goals
        simp (decide := true) (maxSteps := 4000000) only [go_sem, Nat.reduceAdd, Nat.reduceSub, Nat.reduceMul, Nat.reduceDiv, Nat.reduceMod, Nat.reduceLT, Nat.reduceLeDiff, Nat.reduceEqDiff, Nat.reduceBEq, Nat.reduceBNe, Nat.reduceGT, Int.reduceAdd, Int.reduceSub, Int.reduceMul, Int.reduceNeg, Int.reduceLT, Int.reduceLE, Int.reduceEq, Int.reduceNe, Int.reduceBEq, Int.reduceBNe, Int.reduceToNat, Int.reduceGT, Int.reduceGE, ↓reduceIte, decide_true, decide_false, eq_self, Nat.mul_one, Nat.zero_mul, Nat.one_mul, Int.le_refl, Nat.le_refl, Int.cast_ofNat_Int, Try.f18, List.length_nil, bne_self_eq_false]
        refine pwpC_loopU (A := Unit) [0, 1] (fun _ => [(5, .t (.int .i64 0))]) (fun _ => []) (fun _ => 0) () (by decide) (fun _ => by rfl) ?_ fun Q1 hQ1 _ I1 hI1 => ?_
        · simp (decide := true) (maxSteps := 4000000) only [go_sem, Nat.reduceAdd, Nat.reduceSub, Nat.reduceMul, Nat.reduceDiv, Nat.reduceMod, Nat.reduceLT, Nat.reduceLeDiff, Nat.reduceEqDiff, Nat.reduceBEq, Nat.reduceBNe, Nat.reduceGT, Int.reduceAdd, Int.reduceSub, Int.reduceMul, Int.reduceNeg, Int.reduceLT, Int.reduceLE, Int.reduceEq, Int.reduceNe, Int.reduceBEq, Int.reduceBNe, Int.reduceToNat, Int.reduceGT, Int.reduceGE, ↓reduceIte, decide_true, decide_false, eq_self, Nat.mul_one, Nat.zero_mul, Nat.one_mul, Int.le_refl, Nat.le_refl, Int.cast_ofNat_Int]
        · simp (decide := true) (maxSteps := 4000000) only [go_sem, Nat.reduceAdd, Nat.reduceSub, Nat.reduceMul, Nat.reduceDiv, Nat.reduceMod, Nat.reduceLT, Nat.reduceLeDiff, Nat.reduceEqDiff, Nat.reduceBEq, Nat.reduceBNe, Nat.reduceGT, Int.reduceAdd, Int.reduceSub, Int.reduceMul, Int.reduceNeg, Int.reduceLT, Int.reduceLE, Int.reduceEq, Int.reduceNe, Int.reduceBEq, Int.reduceBNe, Int.reduceToNat, Int.reduceGT, Int.reduceGE, ↓reduceIte, decide_true, decide_false, eq_self, Nat.mul_one, Nat.zero_mul, Nat.one_mul, Int.le_refl, Nat.le_refl, Int.cast_ofNat_Int, List.length_nil]
          refine hQ1 _ _ ?_
          simp (decide := true) (maxSteps := 4000000) only [go_sem, Nat.reduceAdd, Nat.reduceSub, Nat.reduceMul, Nat.reduceDiv, Nat.reduceMod, Nat.reduceLT, Nat.reduceLeDiff, Nat.reduceEqDiff, Nat.reduceBEq, Nat.reduceBNe, Nat.reduceGT, Int.reduceAdd, Int.reduceSub, Int.reduceMul, Int.reduceNeg, Int.reduceLT, Int.reduceLE, Int.reduceEq, Int.reduceNe, Int.reduceBEq, Int.reduceBNe, Int.reduceToNat, Int.reduceGT, Int.reduceGE, ↓reduceIte, decide_true, decide_false, eq_self, Nat.mul_one, Nat.zero_mul, Nat.one_mul, Int.le_refl, Nat.le_refl, Int.cast_ofNat_Int]
    · obtain ⟨f1, rfl⟩ := hs.ne (by omega)
      obtain ⟨f2, rfl⟩ := ht.ne (by omega)
      have hl' : ((a.length : Int) != (b.length : Int)) = false := bne_int_f (by omega)
      simp (decide := true) (maxSteps := 4000000) only [go_sem, Nat.reduceAdd, Nat.reduceSub, Nat.reduceMul, Nat.reduceDiv, Nat.reduceMod, Nat.reduceLT, Nat.reduceLeDiff, Nat.reduceEqDiff, Nat.reduceBEq, Nat.reduceBNe, Nat.reduceGT, Int.reduceAdd, Int.reduceSub, Int.reduceMul, Int.reduceNeg, Int.reduceLT, Int.reduceLE, Int.reduceEq, Int.reduceNe, Int.reduceBEq, Int.reduceBNe, Int.reduceToNat, Int.reduceGT, Int.reduceGE, ↓reduceIte, decide_true, decide_false, eq_self, Nat.mul_one, Nat.zero_mul, Nat.one_mul, Int.le_refl, Nat.le_refl, Int.cast_ofNat_Int, Try.f18, hl']
      refine pwpC_loopU (A := { k : Nat // a.take k = b.take k ∧ k ≤ a.length }) [0, 1] (fun k => [(5, .t (.int .i64 k.1))]) (fun _ => []) (fun k => a.length - k.1) ⟨0, by simp⟩ (by decide) (fun _ => by rfl) ?_ fun Q1 hQ1 ⟨k, hk, hka⟩ I1 hI1 => ?_
      · simp (decide := true) (maxSteps := 4000000) only [go_sem, Nat.reduceAdd, Nat.reduceSub, Nat.reduceMul, Nat.reduceDiv, Nat.reduceMod, Nat.reduceLT, Nat.reduceLeDiff, Nat.reduceEqDiff, Nat.reduceBEq, Nat.reduceBNe, Nat.reduceGT, Int.reduceAdd, Int.reduceSub, Int.reduceMul, Int.reduceNeg, Int.reduceLT, Int.reduceLE, Int.reduceEq, Int.reduceNe, Int.reduceBEq, Int.reduceBNe, Int.reduceToNat, Int.reduceGT, Int.reduceGE, ↓reduceIte, decide_true, decide_false, eq_self, Nat.mul_one, Nat.zero_mul, Nat.one_mul, Int.le_refl, Nat.le_refl, Int.cast_ofNat_Int]
      · by_cases hlt : (k : Int) < a.length
        · have hltb : (k : Int) < b.length := by omega
          obtain ⟨x, hx⟩ := get_lt hlt
          obtain ⟨y, hy⟩ := get_lt hltb
          have d1 := flat_at Span.cs (n := 2) (fun _ => rfl) hx
          have d2 := flat_at Span.cs (n := 2) (fun _ => rfl) hy
          have hc1 : IntKind.i64.wrap (k + 1) = ((k + 1 : Nat) : Int) := by rw [wrap_in (by omega) (by omega)]; omega
          obtain ⟨x0, x1⟩ := x
          obtain ⟨y0, y1⟩ := y
          by_cases hxy : x0 = y0 ∧ x1 = y1
          · obtain ⟨rfl, rfl⟩ := hxy
            simp (decide := true) (maxSteps := 4000000) only [go_sem, Nat.reduceAdd, Nat.reduceSub, Nat.reduceMul, Nat.reduceDiv, Nat.reduceMod, Nat.reduceLT, Nat.reduceLeDiff, Nat.reduceEqDiff, Nat.reduceBEq, Nat.reduceBNe, Nat.reduceGT, Int.reduceAdd, Int.reduceSub, Int.reduceMul, Int.reduceNeg, Int.reduceLT, Int.reduceLE, Int.reduceEq, Int.reduceNe, Int.reduceBEq, Int.reduceBNe, Int.reduceToNat, Int.reduceGT, Int.reduceGE, ↓reduceIte, decide_true, decide_false, eq_self, Nat.mul_one, Nat.zero_mul, Nat.one_mul, Int.le_refl, Nat.le_refl, Int.cast_ofNat_Int, hlt, hltb, d1, d2, Span.cs, beq_self_eq_true]
            refine hI1 _ ⟨k + 1, by rw [take_snoc hx, take_snoc hy, hk], by omega⟩ (by simp only; omega) ?_
            simp (decide := true) (maxSteps := 4000000) only [go_sem, Nat.reduceAdd, Nat.reduceSub, Nat.reduceMul, Nat.reduceDiv, Nat.reduceMod, Nat.reduceLT, Nat.reduceLeDiff, Nat.reduceEqDiff, Nat.reduceBEq, Nat.reduceBNe, Nat.reduceGT, Int.reduceAdd, Int.reduceSub, Int.reduceMul, Int.reduceNeg, Int.reduceLT, Int.reduceLE, Int.reduceEq, Int.reduceNe, Int.reduceBEq, Int.reduceBNe, Int.reduceToNat, Int.reduceGT, Int.reduceGE, ↓reduceIte, decide_true, decide_false, eq_self, Nat.mul_one, Nat.zero_mul, Nat.one_mul, Int.le_refl, Nat.le_refl, Int.cast_ofNat_Int, hc1]
          · have hb : (x0 == y0 && x1 == y1) = false := by simpa using hxy
            simp (decide := true) (maxSteps := 4000000) only [go_sem, Nat.reduceAdd, Nat.reduceSub, Nat.reduceMul, Nat.reduceDiv, Nat.reduceMod, Nat.reduceLT, Nat.reduceLeDiff, Nat.reduceEqDiff, Nat.reduceBEq, Nat.reduceBNe, Nat.reduceGT, Int.reduceAdd, Int.reduceSub, Int.reduceMul, Int.reduceNeg, Int.reduceLT, Int.reduceLE, Int.reduceEq, Int.reduceNe, Int.reduceBEq, Int.reduceBNe, Int.reduceToNat, Int.reduceGT, Int.reduceGE, ↓reduceIte, decide_true, decide_false, eq_self, Nat.mul_one, Nat.zero_mul, Nat.one_mul, Int.le_refl, Nat.le_refl, Int.cast_ofNat_Int, hlt, hltb, d1, d2, Span.cs, hb]
            refine hQ1 _ _ ?_
            have : decide (a = b) = false := by
              rw [decide_eq_false_iff_not]
              rintro rfl
              rw [hx] at hy; cases hy; exact hxy ⟨rfl, rfl⟩
            simp (decide := true) (maxSteps := 4000000) only [go_sem, Nat.reduceAdd, Nat.reduceSub, Nat.reduceMul, Nat.reduceDiv, Nat.reduceMod, Nat.reduceLT, Nat.reduceLeDiff, Nat.reduceEqDiff, Nat.reduceBEq, Nat.reduceBNe, Nat.reduceGT, Int.reduceAdd, Int.reduceSub, Int.reduceMul, Int.reduceNeg, Int.reduceLT, Int.reduceLE, Int.reduceEq, Int.reduceNe, Int.reduceBEq, Int.reduceBNe, Int.reduceToNat, Int.reduceGT, Int.reduceGE, ↓reduceIte, decide_true, decide_false, eq_self, Nat.mul_one, Nat.zero_mul, Nat.one_mul, Int.le_refl, Nat.le_refl, Int.cast_ofNat_Int, this]
        · have hke : k = a.length := by omega
          subst hke
          simp (decide := true) (maxSteps := 4000000) only [go_sem, Nat.reduceAdd, Nat.reduceSub, Nat.reduceMul, Nat.reduceDiv, Nat.reduceMod, Nat.reduceLT, Nat.reduceLeDiff, Nat.reduceEqDiff, Nat.reduceBEq, Nat.reduceBNe, Nat.reduceGT, Int.reduceAdd, Int.reduceSub, Int.reduceMul, Int.reduceNeg, Int.reduceLT, Int.reduceLE, Int.reduceEq, Int.reduceNe, Int.reduceBEq, Int.reduceBNe, Int.reduceToNat, Int.reduceGT, Int.reduceGE, ↓reduceIte, decide_true, decide_false, eq_self, Nat.mul_one, Nat.zero_mul, Nat.one_mul, Int.le_refl, Nat.le_refl, Int.cast_ofNat_Int, hlt]
          refine hQ1 _ _ ?_
          have : decide (a = b) = true := by
            rw [decide_eq_true_eq]
            rwa [List.take_length, List.take_of_length_le (by omega)] at hk
          simp (decide := true) (maxSteps := 4000000) only [go_sem, Nat.reduceAdd, Nat.reduceSub, Nat.reduceMul, Nat.reduceDiv, Nat.reduceMod, Nat.reduceLT, Nat.reduceLeDiff, Nat.reduceEqDiff, Nat.reduceBEq, Nat.reduceBNe, Nat.reduceGT, Int.reduceAdd, Int.reduceSub, Int.reduceMul, Int.reduceNeg, Int.reduceLT, Int.reduceLE, Int.reduceEq, Int.reduceNe, Int.reduceBEq, Int.reduceBNe, Int.reduceToNat, Int.reduceGT, Int.reduceGE, ↓reduceIte, decide_true, decide_false, eq_self, Nat.mul_one, Nat.zero_mul, Nat.one_mul, Int.le_refl, Nat.le_refl, Int.cast_ofNat_Int, this]
  · have hl' : ((a.length : Int) != (b.length : Int)) = true := bne_int_t (by omega)
    have hd : decide (a = b) = false := by
      rw [decide_eq_false_iff_not]
      rintro rfl; exact hl rfl
    rcases hs with ⟨rfl, rfl⟩ | ⟨f1, rfl⟩ <;> rcases ht with ⟨rfl, rfl⟩ | ⟨f2, rfl⟩
    · exact absurd rfl hl
    all_goals
      try simp only [List.length_nil, Int.cast_ofNat_Int] at hl'
      simp (decide := true) (maxSteps := 4000000) only [go_sem, Nat.reduceAdd, Nat.reduceSub, Nat.reduceMul, Nat.reduceDiv, Nat.reduceMod, Nat.reduceLT, Nat.reduceLeDiff, Nat.reduceEqDiff, Nat.reduceBEq, Nat.reduceBNe, Nat.reduceGT, Int.reduceAdd, Int.reduceSub, Int.reduceMul, Int.reduceNeg, Int.reduceLT, Int.reduceLE, Int.reduceEq, Int.reduceNe, Int.reduceBEq, Int.reduceBNe, Int.reduceToNat, Int.reduceGT, Int.reduceGE, ↓reduceIte, decide_true, decide_false, eq_self, Nat.mul_one, Nat.zero_mul, Nat.one_mul, Int.le_refl, Nat.le_refl, Int.cast_ofNat_Int, Try.f18, hl', hd]
noncomputable def rSameSpans : List TV → Option TV
  | [s, t] => match rowL unSpans s, rowL unSpans t with
    | some a, some b => if a.length ≤ 9223372036854775806 then some (.bool (decide (a = b))) else none
    | _, _ => none
  | _ => none
theorem rSameSpans_ok : ∀ xs r, rSameSpans xs = some r → PCalls Try.prog 18 xs r := by
  intro xs r h
  unfold rSameSpans at h
  split at h
  · split at h
    · rename_i a b ha hb
      split at h
      · rename_i hc; cases h
        exact SameSpans_c (rowL_some (un := unSpans) rfl (@unSpans_some) ha) (rowL_some (un := unSpans) rfl (@unSpans_some) hb) hc
      · cases h
    · cases h
  · cases h
attribute [go_sem] rSameSpans
noncomputable def glSpansE : List TV → Option TV
  | [.agg [sB, sT], .agg [.int .i64 f, .int .i64 s, .int .i64 a, .int .i64 b, .int .i64 c]] => match rowL unBlanks sB, rowL unSpans sT with
    | some B, some T => if B.length ≤ 5864062014806 ∧ T.length ≤ 9000000000000 then some (.tup [(spansE B T ⟨f, s, a, b, c⟩).1.p.t, (spansE B T ⟨f, s, a, b, c⟩).1.c.t, .int .i64 (spansE B T ⟨f, s, a, b, c⟩).2]) else none
    | _, _ => none
  | _ => none
theorem glSpansE_ok : ∀ xs r, glSpansE xs = some r → PCalls Try.prog 10 xs r := by
  intro xs r h
  unfold glSpansE at h
  split at h
  · split at h
    · rename_i B T hB hT
      split at h
      · rename_i hc; cases h
        exact gSpansE_c (rowL_some (un := unBlanks) rfl (@unBlanks_some) hB) (rowL_some (un := unSpans) rfl (@unSpans_some) hT) hc.1 hc.2 ⟨_, _, _, _, _⟩
      · cases h
    · cases h
  · cases h
noncomputable def glGoodE : List TV → Option TV
  | [.agg [sB, sT], .agg [.int .i64 x, .int .i64 y, .int .i64 z], .agg [.int .i64 f, .int .i64 s, .int .i64 a, .int .i64 b, .int .i64 c]] => match rowL unBlanks sB, rowL unSpans sT with
    | some B, some T => if B.length ≤ 5864062014806 ∧ T.length ≤ 9000000000000 then some (.tup [.bool (goodE B T ⟨⟨x, y⟩, z⟩ ⟨f, s, a, b, c⟩).1, .int .i64 (goodE B T ⟨⟨x, y⟩, z⟩ ⟨f, s, a, b, c⟩).2]) else none
    | _, _ => none
  | _ => none
theorem glGoodE_ok : ∀ xs r, glGoodE xs = some r → PCalls Try.prog 11 xs r := by
  intro xs r h
  unfold glGoodE at h
  split at h
  · split at h
    · rename_i B T hB hT
      split at h
      · rename_i hc; cases h
        exact gGoodE_c (rowL_some (un := unBlanks) rfl (@unBlanks_some) hB) (rowL_some (un := unSpans) rfl (@unSpans_some) hT) hc.1 hc.2 ⟨⟨_, _⟩, _⟩ ⟨_, _, _, _, _⟩
      · cases h
    · cases h
  · cases h
noncomputable def glBest : List TV → Option TV
  | [.agg [sB, sT], .agg [.int .i64 x, .int .i64 y, .int .i64 z]] => match rowL unBlanks sB, rowL unSpans sT with
    | some B, some T => if B.length ≤ 5864062014806 ∧ T.length ≤ 9000000000000 then some (.tup [(bestP B T ⟨⟨x, y⟩, z⟩).1.t, .int .i64 (bestP B T ⟨⟨x, y⟩, z⟩).2.1, .int .i64 (bestP B T ⟨⟨x, y⟩, z⟩).2.2]) else none
    | _, _ => none
  | _ => none
theorem glBest_ok : ∀ xs r, glBest xs = some r → PCalls Try.prog 12 xs r := by
  intro xs r h
  unfold glBest at h
  split at h
  · split at h
    · rename_i B T hB hT
      split at h
      · rename_i hc; cases h
        exact gBest_c (rowL_some (un := unBlanks) rfl (@unBlanks_some) hB) (rowL_some (un := unSpans) rfl (@unSpans_some) hT) hc.1 hc.2 ⟨⟨_, _⟩, _⟩
      · cases h
    · cases h
  · cases h
noncomputable def glMost : List TV → Option TV
  | [.agg [sB, sT], .agg [.int .i64 x, .int .i64 y, .int .i64 z]] => match rowL unBlanks sB, rowL unSpans sT with
    | some B, some T => if B.length ≤ 5864062014806 ∧ T.length ≤ 9000000000000 then some (.tup [rowJ (mostP B T ⟨⟨x, y⟩, z⟩).1, .int .i64 (mostP B T ⟨⟨x, y⟩, z⟩).2]) else none
    | _, _ => none
  | _ => none
theorem glMost_ok : ∀ xs r, glMost xs = some r → PCalls Try.prog 13 xs r := by
  intro xs r h
  unfold glMost at h
  split at h
  · split at h
    · rename_i B T hB hT
      split at h
      · rename_i hc; cases h
        exact gMost_c (rowL_some (un := unBlanks) rfl (@unBlanks_some) hB) (rowL_some (un := unSpans) rfl (@unSpans_some) hT) hc.1 hc.2 ⟨⟨_, _⟩, _⟩
      · cases h
    · cases h
  · cases h
noncomputable def glSeen : List TV → Option TV
  | [.agg [sB, sT], .agg [.int .i64 f, .int .i64 s, .int .i64 a, .int .i64 b, .int .i64 c], .agg [sI, sC, sK]] => match rowL unBlanks sB, rowL unSpans sT, rowL unI sI, rowL unI sC, rowL unI sK with
    | some B, some T, some ix, some co, some cu => if B.length ≤ 5864062014806 ∧ T.length ≤ 9000000000000 then some (.tup [.int .i64 (seenP B T ⟨f, s, a, b, c⟩ ix co cu).1, .int .i64 (seenP B T ⟨f, s, a, b, c⟩ ix co cu).2.1, .int .i64 (seenP B T ⟨f, s, a, b, c⟩ ix co cu).2.2]) else none
    | _, _, _, _, _ => none
  | _ => none
theorem glSeen_ok : ∀ xs r, glSeen xs = some r → PCalls Try.prog 9 xs r := by
  intro xs r h
  unfold glSeen at h
  split at h
  · split at h
    · rename_i B T ix co cu hB hT hI hC hK
      split at h
      · rename_i hc; cases h
        exact gSeen_c (rowL_some (un := unBlanks) rfl (@unBlanks_some) hB) (rowL_some (un := unSpans) rfl (@unSpans_some) hT) hc.1 hc.2 (rowL_some (un := unI) rfl (@unI_some) hI) (rowL_some (un := unI) rfl (@unI_some) hC) (rowL_some (un := unI) rfl (@unI_some) hK) ⟨_, _, _, _, _⟩
      · cases h
    · cases h
  · cases h
attribute [go_sem] glSpansE glGoodE glBest glMost glSeen
noncomputable def glSurface : List TV → Option TV
  | [s] => match rowL unFrs s with
    | some l => if l.length ≤ 5864062014806 then some (.tup [if (surfP l).1.length = 0 then .nilSl else .sl ((surfP l).1.flatMap Span.cs) (surfP l).1.length true, .int .i64 (surfP l).2]) else none
    | none => none
  | _ => none
theorem glSurface_ok : ∀ xs r, glSurface xs = some r → PCalls Try.prog 17 xs r := by
  intro xs r h
  unfold glSurface at h
  split at h
  · split at h
    · rename_i l hl
      have hl := rowL_some (un := unFrs) (by first | rfl | exact unFrs_nil) (@unFrs_some) hl
      split at h
      · rename_i hc; cases h; exact gSurface_c hl hc
      · cases h
    · cases h
  · cases h
attribute [go_sem] glSurface
noncomputable def spH1 : Pm.Spec := (((((((spB3.one 18 rSameSpans).one 14 glCheck).one 10 glSpansE).one 11 glGoodE).one 12 glBest).one 13 glMost).one 9 glSeen).one 17 glSurface
@[go_sem] theorem spH1_p (f : FuncId) (xs : List TV) : spH1.p f xs = Pm.Spec.p ((((((((spB3.one 18 rSameSpans).one 14 glCheck).one 10 glSpansE).one 11 glGoodE).one 12 glBest).one 13 glMost).one 9 glSeen).one 17 glSurface) f xs := rfl
@[go_sem] theorem spH1_h (f : FuncId) (ps : List PV) (hl : List PO) : spH1.h f ps hl = Pm.Spec.h ((((((((spB3.one 18 rSameSpans).one 14 glCheck).one 10 glSpansE).one 11 glGoodE).one 12 glBest).one 13 glMost).one 9 glSeen).one 17 glSurface) f ps hl := rfl
@[go_sem] theorem spH1_y (Y : Pm.YS) (f : FuncId) (ps : List PV) (hl : List PO) : spH1.y Y f ps hl = Pm.Spec.y ((((((((spB3.one 18 rSameSpans).one 14 glCheck).one 10 glSpansE).one 11 glGoodE).one 12 glBest).one 13 glMost).one 9 glSeen).one 17 glSurface) Y f ps hl := rfl
@[go_sem] theorem spH1_fz (f : FuncId) : spH1.fz f = Pm.Spec.fz ((((((((spB3.one 18 rSameSpans).one 14 glCheck).one 10 glSpansE).one 11 glGoodE).one 12 glBest).one 13 glMost).one 9 glSeen).one 17 glSurface) f := rfl
@[go_sem] theorem spH1_fr (f : FuncId) : spH1.fr f = Pm.Spec.fr ((((((((spB3.one 18 rSameSpans).one 14 glCheck).one 10 glSpansE).one 11 glGoodE).one 12 glBest).one 13 glMost).one 9 glSeen).one 17 glSurface) f := rfl
@[go_sem] theorem spH1_yf (f : FuncId) : spH1.yf f = Pm.Spec.yf ((((((((spB3.one 18 rSameSpans).one 14 glCheck).one 10 glSpansE).one 11 glGoodE).one 12 glBest).one 13 glMost).one 9 glSeen).one 17 glSurface) f := rfl
@[go_sem] theorem spH1_mu (t : TypeId) : spH1.mu t = Pm.Spec.mu ((((((((spB3.one 18 rSameSpans).one 14 glCheck).one 10 glSpansE).one 11 glGoodE).one 12 glBest).one 13 glMost).one 9 glSeen).one 17 glSurface) t := rfl
@[go_sem] theorem spH1_nf (t : TypeId) : spH1.nf t = Pm.Spec.nf ((((((((spB3.one 18 rSameSpans).one 14 glCheck).one 10 glSpansE).one 11 glGoodE).one 12 glBest).one 13 glMost).one 9 glSeen).one 17 glSurface) t := rfl
theorem spH1_ok : SpecOk Try.prog spH1 := Spec.one_ok glSurface_ok (Spec.one_ok glSeen_ok (Spec.one_ok glMost_ok (Spec.one_ok glBest_ok (Spec.one_ok glGoodE_ok (Spec.one_ok glSpansE_ok (Spec.one_ok glCheck_ok (Spec.one_ok rSameSpans_ok spB3_ok)))))))
theorem oTo_c (a b : Int) : PCalls Try.prog 8 [.int .i64 a, .int .i64 b] (.agg [.int .i64 a, .int .i64 b]) := by
  refine pcalls_by Try.mixes noSpec_ok (fn := Try.f8) Try.func8 rfl (by kernel_rfl) (by show 2 ≤ _; decide) ?_
  simp (decide := true) (maxSteps := 4000000) only [go_sem, Nat.reduceAdd, Nat.reduceSub, Nat.reduceMul, Nat.reduceDiv, Nat.reduceMod, Nat.reduceLT, Nat.reduceLeDiff, Nat.reduceEqDiff, Nat.reduceBEq, Nat.reduceBNe, Nat.reduceGT, Int.reduceAdd, Int.reduceSub, Int.reduceMul, Int.reduceNeg, Int.reduceLT, Int.reduceLE, Int.reduceEq, Int.reduceNe, Int.reduceBEq, Int.reduceBNe, Int.reduceToNat, Int.reduceGT, Int.reduceGE, ↓reduceIte, decide_true, decide_false, eq_self, Nat.mul_one, Nat.zero_mul, Nat.one_mul, Int.le_refl, Nat.le_refl, Int.cast_ofNat_Int, Try.f8]
theorem oMade_c : PCalls Try.prog 16 [] exO.t := by
  refine pcalls_by Try.mixes noSpec_ok (fn := Try.f16) Try.func16 rfl (by kernel_rfl) (by show 0 ≤ _; decide) ?_
  simp (decide := true) (maxSteps := 4000000) only [go_sem, Nat.reduceAdd, Nat.reduceSub, Nat.reduceMul, Nat.reduceDiv, Nat.reduceMod, Nat.reduceLT, Nat.reduceLeDiff, Nat.reduceEqDiff, Nat.reduceBEq, Nat.reduceBNe, Nat.reduceGT, Int.reduceAdd, Int.reduceSub, Int.reduceMul, Int.reduceNeg, Int.reduceLT, Int.reduceLE, Int.reduceEq, Int.reduceNe, Int.reduceBEq, Int.reduceBNe, Int.reduceToNat, Int.reduceGT, Int.reduceGE, ↓reduceIte, decide_true, decide_false, eq_self, Nat.mul_one, Nat.zero_mul, Nat.one_mul, Int.le_refl, Nat.le_refl, Int.cast_ofNat_Int, Try.f16, exO, Ob.t, Ob.cs]
noncomputable def goTo : List TV → Option TV
  | [.int .i64 a, .int .i64 b] => some (.agg [.int .i64 a, .int .i64 b])
  | _ => none
theorem goTo_ok : ∀ xs r, goTo xs = some r → PCalls Try.prog 8 xs r := by
  intro xs r h
  unfold goTo at h
  split at h
  · cases h; exact oTo_c _ _
  · cases h
attribute [go_sem] goTo
noncomputable def goMade : List TV → Option TV
  | [] => some (exO.t)
  | _ => none
theorem goMade_ok : ∀ xs r, goMade xs = some r → PCalls Try.prog 16 xs r := by
  intro xs r h
  unfold goMade at h
  split at h
  · cases h; exact oMade_c
  · cases h
attribute [go_sem] goMade
noncomputable def spH2 : Pm.Spec := (spH1.one 8 goTo).one 16 goMade
@[go_sem] theorem spH2_p (f : FuncId) (xs : List TV) : spH2.p f xs = Pm.Spec.p ((spH1.one 8 goTo).one 16 goMade) f xs := rfl
@[go_sem] theorem spH2_h (f : FuncId) (ps : List PV) (hl : List PO) : spH2.h f ps hl = Pm.Spec.h ((spH1.one 8 goTo).one 16 goMade) f ps hl := rfl
@[go_sem] theorem spH2_y (Y : Pm.YS) (f : FuncId) (ps : List PV) (hl : List PO) : spH2.y Y f ps hl = Pm.Spec.y ((spH1.one 8 goTo).one 16 goMade) Y f ps hl := rfl
@[go_sem] theorem spH2_fz (f : FuncId) : spH2.fz f = Pm.Spec.fz ((spH1.one 8 goTo).one 16 goMade) f := rfl
@[go_sem] theorem spH2_fr (f : FuncId) : spH2.fr f = Pm.Spec.fr ((spH1.one 8 goTo).one 16 goMade) f := rfl
@[go_sem] theorem spH2_yf (f : FuncId) : spH2.yf f = Pm.Spec.yf ((spH1.one 8 goTo).one 16 goMade) f := rfl
@[go_sem] theorem spH2_mu (t : TypeId) : spH2.mu t = Pm.Spec.mu ((spH1.one 8 goTo).one 16 goMade) t := rfl
@[go_sem] theorem spH2_nf (t : TypeId) : spH2.nf t = Pm.Spec.nf ((spH1.one 8 goTo).one 16 goMade) t := rfl
theorem spH2_ok : SpecOk Try.prog spH2 := Spec.one_ok goMade_ok (Spec.one_ok goTo_ok spH1_ok)
theorem oWish_c (n : Int) : PCalls Try.prog 15 [.int .i64 n] (.agg [.int .i64 700000, .int .i64 900000, .int .i64 n]) := by
  refine pcalls_by Try.mixes spH2_ok (fn := Try.f15) Try.func15 rfl (by kernel_rfl) (by show 1 ≤ _; decide) ?_
  simp (decide := true) (maxSteps := 4000000) only [go_sem, Nat.reduceAdd, Nat.reduceSub, Nat.reduceMul, Nat.reduceDiv, Nat.reduceMod, Nat.reduceLT, Nat.reduceLeDiff, Nat.reduceEqDiff, Nat.reduceBEq, Nat.reduceBNe, Nat.reduceGT, Int.reduceAdd, Int.reduceSub, Int.reduceMul, Int.reduceNeg, Int.reduceLT, Int.reduceLE, Int.reduceEq, Int.reduceNe, Int.reduceBEq, Int.reduceBNe, Int.reduceToNat, Int.reduceGT, Int.reduceGE, ↓reduceIte, decide_true, decide_false, eq_self, Nat.mul_one, Nat.zero_mul, Nat.one_mul, Int.le_refl, Nat.le_refl, Int.cast_ofNat_Int, Try.f15]
theorem oStock_c : PCalls Try.prog 7 [] (.agg [.sl (exS.flatMap Blank.cs) 2 true, .sl (exT.flatMap Span.cs) 3 true]) := by
  refine pcalls_by Try.mixes spH2_ok (fn := Try.f7) Try.func7 rfl (by kernel_rfl) (by show 0 ≤ _; decide) ?_
  simp (decide := true) (maxSteps := 4000000) only [go_sem, Nat.reduceAdd, Nat.reduceSub, Nat.reduceMul, Nat.reduceDiv, Nat.reduceMod, Nat.reduceLT, Nat.reduceLeDiff, Nat.reduceEqDiff, Nat.reduceBEq, Nat.reduceBNe, Nat.reduceGT, Int.reduceAdd, Int.reduceSub, Int.reduceMul, Int.reduceNeg, Int.reduceLT, Int.reduceLE, Int.reduceEq, Int.reduceNe, Int.reduceBEq, Int.reduceBNe, Int.reduceToNat, Int.reduceGT, Int.reduceGE, ↓reduceIte, decide_true, decide_false, eq_self, Nat.mul_one, Nat.zero_mul, Nat.one_mul, Int.le_refl, Nat.le_refl, Int.cast_ofNat_Int, Try.f7, exS, exT, Blank.cs, Span.cs, List.flatMap_cons, List.flatMap_nil]
noncomputable def goWish : List TV → Option TV
  | [.int .i64 n] => some (.agg [.int .i64 700000, .int .i64 900000, .int .i64 n])
  | _ => none
theorem goWish_ok : ∀ xs r, goWish xs = some r → PCalls Try.prog 15 xs r := by
  intro xs r h
  unfold goWish at h
  split at h
  · cases h; exact oWish_c _
  · cases h
attribute [go_sem] goWish
noncomputable def goStock : List TV → Option TV
  | [] => some (.agg [.sl (exS.flatMap Blank.cs) 2 true, .sl (exT.flatMap Span.cs) 3 true])
  | _ => none
theorem goStock_ok : ∀ xs r, goStock xs = some r → PCalls Try.prog 7 xs r := by
  intro xs r h
  unfold goStock at h
  split at h
  · cases h; exact oStock_c
  · cases h
attribute [go_sem] goStock
noncomputable def spH3 : Pm.Spec := (spH2.one 15 goWish).one 7 goStock
@[go_sem] theorem spH3_p (f : FuncId) (xs : List TV) : spH3.p f xs = Pm.Spec.p ((spH2.one 15 goWish).one 7 goStock) f xs := rfl
@[go_sem] theorem spH3_h (f : FuncId) (ps : List PV) (hl : List PO) : spH3.h f ps hl = Pm.Spec.h ((spH2.one 15 goWish).one 7 goStock) f ps hl := rfl
@[go_sem] theorem spH3_y (Y : Pm.YS) (f : FuncId) (ps : List PV) (hl : List PO) : spH3.y Y f ps hl = Pm.Spec.y ((spH2.one 15 goWish).one 7 goStock) Y f ps hl := rfl
@[go_sem] theorem spH3_fz (f : FuncId) : spH3.fz f = Pm.Spec.fz ((spH2.one 15 goWish).one 7 goStock) f := rfl
@[go_sem] theorem spH3_fr (f : FuncId) : spH3.fr f = Pm.Spec.fr ((spH2.one 15 goWish).one 7 goStock) f := rfl
@[go_sem] theorem spH3_yf (f : FuncId) : spH3.yf f = Pm.Spec.yf ((spH2.one 15 goWish).one 7 goStock) f := rfl
@[go_sem] theorem spH3_mu (t : TypeId) : spH3.mu t = Pm.Spec.mu ((spH2.one 15 goWish).one 7 goStock) t := rfl
@[go_sem] theorem spH3_nf (t : TypeId) : spH3.nf t = Pm.Spec.nf ((spH2.one 15 goWish).one 7 goStock) t := rfl
theorem spH3_ok : SpecOk Try.prog spH3 := Spec.one_ok goStock_ok (Spec.one_ok goWish_ok spH2_ok)
theorem ex1 : seenP exS exT exO [50000, 60000] [800, 1600] [20, -20, 0] = (800000, 0, 0) := by decide +kernel
theorem ex2 : spansE exS exT exO = (⟨⟨740000, 860400⟩, ⟨-1600, 1600⟩⟩, 0) := by decide +kernel
theorem ex3 : goodE exS exT ⟨⟨700000, 900000⟩, 2000⟩ exO = (true, 0) := by decide +kernel
theorem ex4 : bestP exS exT ⟨⟨700000, 900000⟩, 2000⟩ = (exO, 1600, 0) := by decide +kernel
theorem ex5 : (mostP exS exT ⟨⟨700000, 900000⟩, 2000⟩).1.length = 1 ∧ (mostP exS exT ⟨⟨700000, 900000⟩, 2000⟩).2 = 0 := by decide +kernel
theorem ex6 : surfP [⟨⟨100, 100⟩, ⟨5, 6⟩, 0⟩, ⟨⟨98, 98⟩, ⟨6, 8⟩, 0⟩] = ([⟨105, 106⟩], 0) := by decide +kernel
theorem oWorks_c : PCalls Try.prog 19 [] (.bool true) := by
  have n1 : (mostP [⟨⟨50000, 50010⟩, ⟨800, 800⟩, 9⟩, ⟨⟨60000, 60000⟩, ⟨1600, 1600⟩, 12⟩] [⟨20, 20⟩, ⟨-20, -20⟩, ⟨-1, 1⟩] ⟨⟨700000, 900000⟩, 2000⟩).2 = 0 := ex5.2
  obtain ⟨M, hM⟩ : ∃ M, (mostP [⟨⟨50000, 50010⟩, ⟨800, 800⟩, 9⟩, ⟨⟨60000, 60000⟩, ⟨1600, 1600⟩, 12⟩] [⟨20, 20⟩, ⟨-20, -20⟩, ⟨-1, 1⟩] ⟨⟨700000, 900000⟩, 2000⟩).1 = M := ⟨_, rfl⟩
  have hM1 : M.length = 1 := by rw [← hM]; exact ex5.1
  have hr : rowJ M = .sl (M.flatMap Ob.cs) 1 true := by unfold rowJ; rw [hM1]; rfl
  have e1 := ex1
  have e2 := ex2
  have e3 := ex3
  have e4 := ex4
  have e6 := ex6
  unfold exS exT exO at e1 e2 e3 e4
  refine pcalls_by Try.mixes spH3_ok (fn := Try.f19) Try.func19 rfl (by kernel_rfl) (by show 0 ≤ _; decide) ?_
  simp (decide := true) (maxSteps := 4000000) only [go_sem, Nat.reduceAdd, Nat.reduceSub, Nat.reduceMul, Nat.reduceDiv, Nat.reduceMod, Nat.reduceLT, Nat.reduceLeDiff, Nat.reduceEqDiff, Nat.reduceBEq, Nat.reduceBNe, Nat.reduceGT, Int.reduceAdd, Int.reduceSub, Int.reduceMul, Int.reduceNeg, Int.reduceLT, Int.reduceLE, Int.reduceEq, Int.reduceNe, Int.reduceBEq, Int.reduceBNe, Int.reduceToNat, Int.reduceGT, Int.reduceGE, ↓reduceIte, decide_true, decide_false, eq_self, Nat.mul_one, Nat.zero_mul, Nat.one_mul, Int.le_refl, Nat.le_refl, Int.cast_ofNat_Int, Try.f19, exS, exT, exO, Blank.cs, Span.cs, Ob.t, Ob.cs, List.flatMap_cons, List.flatMap_nil, unBlanks, unSpans, unI, unFrs, ints, List.map_cons, List.map_nil, e1, e2, e3, e4, e6, n1, hM, hr, Span.t, rowL, Option.map_some, List.length_cons, List.length_nil]
end Go.Proofs.Ytadkjjnnnkfalaa.Gl

/- Part Gt2. -/
namespace Go.Oc.Gl
end Go.Oc.Gl
namespace Go.Proofs.Ytadkjjnnnkfalaa.Gl
end Go.Proofs.Ytadkjjnnnkfalaa.Gl
namespace Go.Oc.Gl
open Go Go.Pm
theorem seen40 {B : List Blank} {T : List Span} (h : stockOk B T = false) (o : Ob) (a b c : List Int) : seenP B T o a b c = (0, 0, 40) := by unfold seenP; rw [if_pos h]
theorem spans40 {B : List Blank} {T : List Span} (h : stockOk B T = false) (o : Ob) : spansE B T o = (⟨⟨0, 0⟩, ⟨0, 0⟩⟩, 40) := by unfold spansE; rw [if_pos h]
theorem good40 {B : List Blank} {T : List Span} (h : stockOk B T = false) (w : Want) (o : Ob) : goodE B T w o = (false, 40) := by unfold goodE askedG; rw [h]; rfl
theorem best40 {B : List Blank} {T : List Span} (h : stockOk B T = false) (w : Want) : bestP B T w = (⟨0, 0, 0, 0, 0⟩, 0, 40) := by unfold bestP; rw [if_pos h]; rfl
theorem most40 {B : List Blank} {T : List Span} (h : stockOk B T = false) (w : Want) : mostP B T w = ([], 40) := by unfold mostP; rw [if_pos h]
end Go.Oc.Gl
namespace Go.Proofs.Ytadkjjnnnkfalaa.Gl
open Go.RowKit Go.Pm Go.Oc Go.Oc.Gl
set_option maxRecDepth 100000
set_option linter.unusedVariables false
set_option maxHeartbeats 8000000

noncomputable def goWorks2 : List TV → Option TV
  | [] => some (.bool true)
  | _ => none
theorem goWorks2_ok : ∀ xs r, goWorks2 xs = some r → PCalls Try.prog 19 xs r := by
  intro xs r h
  unfold goWorks2 at h
  split at h
  · cases h; exact oWorks_c
  · cases h
attribute [go_sem] goWorks2
noncomputable def spKa : Pm.Spec := ((spH1.one 19 goWorks2).one 8 goTo).one 16 goMade
@[go_sem] theorem spKa_p (f : FuncId) (xs : List TV) : spKa.p f xs = Pm.Spec.p (((spH1.one 19 goWorks2).one 8 goTo).one 16 goMade) f xs := rfl
@[go_sem] theorem spKa_h (f : FuncId) (ps : List PV) (hl : List PO) : spKa.h f ps hl = Pm.Spec.h (((spH1.one 19 goWorks2).one 8 goTo).one 16 goMade) f ps hl := rfl
@[go_sem] theorem spKa_y (Y : Pm.YS) (f : FuncId) (ps : List PV) (hl : List PO) : spKa.y Y f ps hl = Pm.Spec.y (((spH1.one 19 goWorks2).one 8 goTo).one 16 goMade) Y f ps hl := rfl
@[go_sem] theorem spKa_fz (f : FuncId) : spKa.fz f = Pm.Spec.fz (((spH1.one 19 goWorks2).one 8 goTo).one 16 goMade) f := rfl
@[go_sem] theorem spKa_fr (f : FuncId) : spKa.fr f = Pm.Spec.fr (((spH1.one 19 goWorks2).one 8 goTo).one 16 goMade) f := rfl
@[go_sem] theorem spKa_yf (f : FuncId) : spKa.yf f = Pm.Spec.yf (((spH1.one 19 goWorks2).one 8 goTo).one 16 goMade) f := rfl
@[go_sem] theorem spKa_mu (t : TypeId) : spKa.mu t = Pm.Spec.mu (((spH1.one 19 goWorks2).one 8 goTo).one 16 goMade) t := rfl
@[go_sem] theorem spKa_nf (t : TypeId) : spKa.nf t = Pm.Spec.nf (((spH1.one 19 goWorks2).one 8 goTo).one 16 goMade) t := rfl
theorem spKa_ok : SpecOk Try.prog spKa := Spec.one_ok goMade_ok (Spec.one_ok goTo_ok (Spec.one_ok goWorks2_ok spH1_ok))
noncomputable def spKs : Pm.Spec := { spKa with mu := fun t => t == 22 || t == 23 }
@[go_sem] theorem spKs_p (f : FuncId) (xs : List TV) : spKs.p f xs = Pm.Spec.p ({ spKa with mu := fun t => t == 22 || t == 23 }) f xs := rfl
@[go_sem] theorem spKs_h (f : FuncId) (ps : List PV) (hl : List PO) : spKs.h f ps hl = Pm.Spec.h ({ spKa with mu := fun t => t == 22 || t == 23 }) f ps hl := rfl
@[go_sem] theorem spKs_y (Y : Pm.YS) (f : FuncId) (ps : List PV) (hl : List PO) : spKs.y Y f ps hl = Pm.Spec.y ({ spKa with mu := fun t => t == 22 || t == 23 }) Y f ps hl := rfl
@[go_sem] theorem spKs_fz (f : FuncId) : spKs.fz f = Pm.Spec.fz ({ spKa with mu := fun t => t == 22 || t == 23 }) f := rfl
@[go_sem] theorem spKs_fr (f : FuncId) : spKs.fr f = Pm.Spec.fr ({ spKa with mu := fun t => t == 22 || t == 23 }) f := rfl
@[go_sem] theorem spKs_yf (f : FuncId) : spKs.yf f = Pm.Spec.yf ({ spKa with mu := fun t => t == 22 || t == 23 }) f := rfl
@[go_sem] theorem spKs_mu (t : TypeId) : spKs.mu t = Pm.Spec.mu ({ spKa with mu := fun t => t == 22 || t == 23 }) t := rfl
@[go_sem] theorem spKs_nf (t : TypeId) : spKs.nf t = Pm.Spec.nf ({ spKa with mu := fun t => t == 22 || t == 23 }) t := rfl
theorem spKs_ok : SpecOk Try.prog spKs := ⟨spKa_ok.1, spKa_ok.2⟩
/-- A row that is written, or is not any more. -/
def rwO (b : Bool) (cs : List TV) (t : TypeId) (n : Nat) : PO := if b then .gro 0 cs t n else .grow 0 (cs.map .t) t n
def stkV : PV := .cons false (.gsl 1 0 5 0 2 false) (.cons false (.gsl 2 0 2 0 3 false) (.nil false))
def stkO : List PO := [.box [.gsl 1 0 5 0 2 false, .gsl 2 0 2 0 3 false], .grow 0 [.t (.int .i64 50000), .t (.int .i64 50010), .t (.int .i64 800), .t (.int .i64 800), .t (.int .i64 9), .t (.int .i64 60000), .t (.int .i64 60000), .t (.int .i64 1600), .t (.int .i64 1600), .t (.int .i64 12)] 32 5,
  .grow 0 [.t (.int .i64 20), .t (.int .i64 20), .t (.int .i64 (-20)), .t (.int .i64 (-20)), .t (.int .i64 (-1)), .t (.int .i64 1)] 29 2]
/-- The chapter's stock, made to be written. -/
theorem hStock_c : HCalls Try.prog 7 [] (getL []) stkV (getL stkO) := by
  refine hcalls_by Try.mixes spKs_ok (fn := Try.f7) Try.func7 rfl (by kernel_rfl) (by show 0 ≤ _; decide) ?_
  simp (decide := true) (maxSteps := 4000000) only [go_sem, Nat.reduceAdd, Nat.reduceSub, Nat.reduceMul, Nat.reduceDiv, Nat.reduceMod, Nat.reduceLT, Nat.reduceLeDiff, Nat.reduceEqDiff, Nat.reduceBEq, Nat.reduceBNe, Nat.reduceGT, Int.reduceAdd, Int.reduceSub, Int.reduceMul, Int.reduceNeg, Int.reduceLT, Int.reduceLE, Int.reduceEq, Int.reduceNe, Int.reduceBEq, Int.reduceBNe, Int.reduceToNat, Int.reduceGT, Int.reduceGE, ↓reduceIte, decide_true, decide_false, eq_self, Nat.mul_one, Nat.zero_mul, Nat.one_mul, Int.le_refl, Nat.le_refl, Int.cast_ofNat_Int, Try.f7, stkV, stkO, thawA, thawC, cellW, cellsW, heapW, objW]
  exact ⟨_, rfl, rfl⟩
noncomputable def gStockH : List PV → List PO → Option (PV × List PO)
  | [], [] => some (stkV, stkO)
  | _, _ => none
theorem gStockH_ok : ∀ xs hl r hl', gStockH xs hl = some (r, hl') → HCalls Try.prog 7 xs (getL hl) r (getL hl') := by
  intro xs hl r hl' h
  unfold gStockH at h
  split at h
  · simp only [Option.some.injEq, Prod.mk.injEq] at h
    obtain ⟨rfl, rfl⟩ := h
    exact hStock_c
  · cases h
attribute [go_sem] gStockH stkV stkO
noncomputable def spKb : Pm.Spec := spKa.one 15 goWish
@[go_sem] theorem spKb_p (f : FuncId) (xs : List TV) : spKb.p f xs = Pm.Spec.p (spKa.one 15 goWish) f xs := rfl
@[go_sem] theorem spKb_h (f : FuncId) (ps : List PV) (hl : List PO) : spKb.h f ps hl = Pm.Spec.h (spKa.one 15 goWish) f ps hl := rfl
@[go_sem] theorem spKb_y (Y : Pm.YS) (f : FuncId) (ps : List PV) (hl : List PO) : spKb.y Y f ps hl = Pm.Spec.y (spKa.one 15 goWish) Y f ps hl := rfl
@[go_sem] theorem spKb_fz (f : FuncId) : spKb.fz f = Pm.Spec.fz (spKa.one 15 goWish) f := rfl
@[go_sem] theorem spKb_fr (f : FuncId) : spKb.fr f = Pm.Spec.fr (spKa.one 15 goWish) f := rfl
@[go_sem] theorem spKb_yf (f : FuncId) : spKb.yf f = Pm.Spec.yf (spKa.one 15 goWish) f := rfl
@[go_sem] theorem spKb_mu (t : TypeId) : spKb.mu t = Pm.Spec.mu (spKa.one 15 goWish) t := rfl
@[go_sem] theorem spKb_nf (t : TypeId) : spKb.nf t = Pm.Spec.nf (spKa.one 15 goWish) t := rfl
theorem spKb_ok : SpecOk Try.prog spKb := Spec.one_ok goWish_ok spKa_ok
noncomputable def spKc : Pm.Spec := Spec.oneH 7 gStockH { spKb with mu := fun t => t == 27, nf := fun t => t == 27, fr := fun f => f == 9 || f == 10 || f == 11 || f == 12 || f == 13 || f == 14 || f == 17 }
@[go_sem] theorem spKc_p (f : FuncId) (xs : List TV) : spKc.p f xs = Pm.Spec.p (Spec.oneH 7 gStockH { spKb with mu := fun t => t == 27, nf := fun t => t == 27, fr := fun f => f == 9 || f == 10 || f == 11 || f == 12 || f == 13 || f == 14 || f == 17 }) f xs := rfl
@[go_sem] theorem spKc_h (f : FuncId) (ps : List PV) (hl : List PO) : spKc.h f ps hl = Pm.Spec.h (Spec.oneH 7 gStockH { spKb with mu := fun t => t == 27, nf := fun t => t == 27, fr := fun f => f == 9 || f == 10 || f == 11 || f == 12 || f == 13 || f == 14 || f == 17 }) f ps hl := rfl
@[go_sem] theorem spKc_y (Y : Pm.YS) (f : FuncId) (ps : List PV) (hl : List PO) : spKc.y Y f ps hl = Pm.Spec.y (Spec.oneH 7 gStockH { spKb with mu := fun t => t == 27, nf := fun t => t == 27, fr := fun f => f == 9 || f == 10 || f == 11 || f == 12 || f == 13 || f == 14 || f == 17 }) Y f ps hl := rfl
@[go_sem] theorem spKc_fz (f : FuncId) : spKc.fz f = Pm.Spec.fz (Spec.oneH 7 gStockH { spKb with mu := fun t => t == 27, nf := fun t => t == 27, fr := fun f => f == 9 || f == 10 || f == 11 || f == 12 || f == 13 || f == 14 || f == 17 }) f := rfl
@[go_sem] theorem spKc_fr (f : FuncId) : spKc.fr f = Pm.Spec.fr (Spec.oneH 7 gStockH { spKb with mu := fun t => t == 27, nf := fun t => t == 27, fr := fun f => f == 9 || f == 10 || f == 11 || f == 12 || f == 13 || f == 14 || f == 17 }) f := rfl
@[go_sem] theorem spKc_yf (f : FuncId) : spKc.yf f = Pm.Spec.yf (Spec.oneH 7 gStockH { spKb with mu := fun t => t == 27, nf := fun t => t == 27, fr := fun f => f == 9 || f == 10 || f == 11 || f == 12 || f == 13 || f == 14 || f == 17 }) f := rfl
@[go_sem] theorem spKc_mu (t : TypeId) : spKc.mu t = Pm.Spec.mu (Spec.oneH 7 gStockH { spKb with mu := fun t => t == 27, nf := fun t => t == 27, fr := fun f => f == 9 || f == 10 || f == 11 || f == 12 || f == 13 || f == 14 || f == 17 }) t := rfl
@[go_sem] theorem spKc_nf (t : TypeId) : spKc.nf t = Pm.Spec.nf (Spec.oneH 7 gStockH { spKb with mu := fun t => t == 27, nf := fun t => t == 27, fr := fun f => f == 9 || f == 10 || f == 11 || f == 12 || f == 13 || f == 14 || f == 17 }) t := rfl
theorem spKc_ok : SpecOk Try.prog spKc := Spec.oneH_ok gStockH_ok ⟨spKb_ok.1, spKb_ok.2⟩
theorem GlassKnown_c : PCalls Try.prog 3 [] (.bool true) := by
  have u1 : unBlanks [] = some [] := rfl
  have u2 : unSpans [] = some [] := rfl
  have u3 : unI [] = some [] := rfl
  have u4 : unFrs [] = some [] := rfl
  have er : rowJ [] = .nilSl := rfl
  have h0 : stockOk [] [] = false := by decide
  have h1 : stockOk [⟨⟨50000, 50010⟩, ⟨800, 800⟩, 9⟩] [⟨20, 20⟩, ⟨-20, -20⟩, ⟨-1, 1⟩] = false := by decide
  have h2 : stockOk [⟨⟨3, 2⟩, ⟨800, 800⟩, 9⟩, ⟨⟨60000, 60000⟩, ⟨1600, 1600⟩, 12⟩] [⟨20, 20⟩, ⟨-20, -20⟩, ⟨-1, 1⟩] = false := by decide
  have h3 : stockOk [⟨⟨50000, 50010⟩, ⟨800, 800⟩, 9⟩, ⟨⟨60000, 60000⟩, ⟨0, 2⟩, 12⟩] [⟨20, 20⟩, ⟨-20, -20⟩, ⟨-1, 1⟩] = false := by decide
  have h4 : stockOk [⟨⟨50000, 50010⟩, ⟨800, 800⟩, 9⟩, ⟨⟨60000, 60000⟩, ⟨1600, 1600⟩, 12⟩] [⟨20, 20⟩, ⟨-1001, 0⟩, ⟨-1, 1⟩] = false := by decide
  have h5 : stockOk [⟨⟨50000, 50010⟩, ⟨800, 800⟩, 9⟩, ⟨⟨60000, 60000⟩, ⟨1600, 1600⟩, -1⟩] [⟨20, 20⟩, ⟨-20, -20⟩, ⟨-1, 1⟩] = false := by decide
  have s0 : seenP [⟨⟨50000, 50010⟩, ⟨800, 800⟩, 9⟩, ⟨⟨60000, 60000⟩, ⟨1600, 1600⟩, 12⟩] [⟨20, 20⟩, ⟨-20, -20⟩, ⟨-1, 1⟩] ⟨0, 1, 0, 1, 2⟩ [50011, 60000] [800, 1600] [20, -20, 0] = (0, 0, 42) := by decide +kernel
  have s1 : seenP [⟨⟨50000, 50010⟩, ⟨800, 800⟩, 9⟩, ⟨⟨60000, 60000⟩, ⟨1600, 1600⟩, 12⟩] [⟨20, 20⟩, ⟨-20, -20⟩, ⟨-1, 1⟩] ⟨0, 1, 0, 1, 2⟩ [50000, 60000] [800, 1600] [20, -20] = (0, 0, 42) := by decide +kernel
  have s2 : bestP [⟨⟨50000, 50010⟩, ⟨800, 800⟩, 9⟩, ⟨⟨60000, 60000⟩, ⟨1600, 1600⟩, 12⟩] [⟨20, 20⟩, ⟨-20, -20⟩, ⟨-1, 1⟩] ⟨⟨700000, 900000⟩, 1599⟩ = (⟨0, 0, 0, 0, 0⟩, 0, 4) := by decide +kernel
  have s3 : bestP [⟨⟨50000, 50010⟩, ⟨800, 800⟩, 9⟩, ⟨⟨60000, 60000⟩, ⟨1600, 1600⟩, 12⟩] [⟨20, 20⟩, ⟨-20, -20⟩, ⟨-1, 1⟩] ⟨⟨1, 0⟩, 0⟩ = (⟨0, 0, 0, 0, 0⟩, 0, 43) := by decide +kernel
  have s4 : surfP [] = ([], 44) := by decide +kernel
  have s5 : surfP [⟨⟨0, 0⟩, ⟨0, 0⟩, 0⟩, ⟨⟨0, 0⟩, ⟨0, 0⟩, 0⟩, ⟨⟨0, 0⟩, ⟨0, 0⟩, 0⟩, ⟨⟨0, 0⟩, ⟨0, 0⟩, 0⟩, ⟨⟨0, 0⟩, ⟨0, 0⟩, 0⟩, ⟨⟨0, 0⟩, ⟨0, 0⟩, 0⟩, ⟨⟨0, 0⟩, ⟨0, 0⟩, 0⟩, ⟨⟨0, 0⟩, ⟨0, 0⟩, 0⟩, ⟨⟨0, 0⟩, ⟨0, 0⟩, 0⟩, ⟨⟨0, 0⟩, ⟨0, 0⟩, 0⟩, ⟨⟨0, 0⟩, ⟨0, 0⟩, 0⟩, ⟨⟨0, 0⟩, ⟨0, 0⟩, 0⟩, ⟨⟨0, 0⟩, ⟨0, 0⟩, 0⟩] = ([], 44) := by decide +kernel
  have s6 : surfP [⟨⟨0, 0⟩, ⟨0, 0⟩, 2⟩] = ([], 44) := by decide +kernel
  have s7 : surfP [⟨⟨100, 100⟩, ⟨5, 6⟩, 0⟩, ⟨⟨100, 103⟩, ⟨3, 3⟩, -1⟩] = ([], 4) := by decide +kernel
  have s8 : surfP [⟨⟨0, 0⟩, ⟨0, 1001⟩, 0⟩] = ([], 44) := by decide +kernel
  have s9 : spansE [⟨⟨50000, 50010⟩, ⟨800, 800⟩, 9⟩, ⟨⟨60000, 60000⟩, ⟨1600, 1600⟩, 12⟩] [⟨20, 20⟩, ⟨-20, -20⟩, ⟨-1, 1⟩] ⟨1, 0, 2, 1, 0⟩ = (⟨⟨-860400, -740000⟩, ⟨-1600, 1600⟩⟩, 0) := by decide +kernel
  have s10 : mostP [⟨⟨50000, 50010⟩, ⟨800, 800⟩, 9⟩, ⟨⟨60000, 60000⟩, ⟨1600, 1600⟩, 12⟩] [⟨20, 20⟩, ⟨-20, -20⟩, ⟨-1, 1⟩] ⟨⟨700000, 900000⟩, 1599⟩ = ([], 0) := by decide +kernel
  have s11 : surfP [⟨⟨100, 100⟩, ⟨5, 6⟩, 0⟩] = ([⟨94, 95⟩, ⟨105, 106⟩], 0) := by decide +kernel
  have s12 : surfP [⟨⟨7, 8⟩, ⟨0, 0⟩, 0⟩] = ([⟨7, 8⟩], 0) := by decide +kernel
  have s13 : surfP [⟨⟨-3, 3⟩, ⟨1, 2⟩, 1⟩] = ([⟨-2, 5⟩], 0) := by decide +kernel
  have s14 : surfP [⟨⟨-3, 3⟩, ⟨1, 2⟩, 0⟩] = ([⟨-5, 5⟩], 0) := by decide +kernel
  have a0 : spansE [⟨⟨50000, 50010⟩, ⟨800, 800⟩, 9⟩, ⟨⟨60000, 60000⟩, ⟨1600, 1600⟩, 12⟩] [⟨20, 20⟩, ⟨-20, -20⟩, ⟨-1, 1⟩] ⟨0, 0, 0, 0, 0⟩ = (⟨⟨0, 0⟩, ⟨0, 0⟩⟩, 41) := by decide +kernel
  have b0 : goodE [⟨⟨50000, 50010⟩, ⟨800, 800⟩, 9⟩, ⟨⟨60000, 60000⟩, ⟨1600, 1600⟩, 12⟩] [⟨20, 20⟩, ⟨-20, -20⟩, ⟨-1, 1⟩] ⟨⟨700000, 900000⟩, 2000⟩ ⟨0, 0, 0, 0, 0⟩ = (false, 41) := by decide +kernel
  have c0 : goodE [⟨⟨50000, 50010⟩, ⟨800, 800⟩, 9⟩, ⟨⟨60000, 60000⟩, ⟨1600, 1600⟩, 12⟩] [⟨20, 20⟩, ⟨-20, -20⟩, ⟨-1, 1⟩] ⟨⟨700000, 900000⟩, -1⟩ ⟨0, 0, 0, 0, 0⟩ = (false, 43) := by decide +kernel
  have a1 : spansE [⟨⟨50000, 50010⟩, ⟨800, 800⟩, 9⟩, ⟨⟨60000, 60000⟩, ⟨1600, 1600⟩, 12⟩] [⟨20, 20⟩, ⟨-20, -20⟩, ⟨-1, 1⟩] ⟨0, 2, 0, 0, 0⟩ = (⟨⟨0, 0⟩, ⟨0, 0⟩⟩, 41) := by decide +kernel
  have b1 : goodE [⟨⟨50000, 50010⟩, ⟨800, 800⟩, 9⟩, ⟨⟨60000, 60000⟩, ⟨1600, 1600⟩, 12⟩] [⟨20, 20⟩, ⟨-20, -20⟩, ⟨-1, 1⟩] ⟨⟨700000, 900000⟩, 2000⟩ ⟨0, 2, 0, 0, 0⟩ = (false, 41) := by decide +kernel
  have c1 : goodE [⟨⟨50000, 50010⟩, ⟨800, 800⟩, 9⟩, ⟨⟨60000, 60000⟩, ⟨1600, 1600⟩, 12⟩] [⟨20, 20⟩, ⟨-20, -20⟩, ⟨-1, 1⟩] ⟨⟨700000, 900000⟩, -1⟩ ⟨0, 2, 0, 0, 0⟩ = (false, 43) := by decide +kernel
  have a2 : spansE [⟨⟨50000, 50010⟩, ⟨800, 800⟩, 9⟩, ⟨⟨60000, 60000⟩, ⟨1600, 1600⟩, 12⟩] [⟨20, 20⟩, ⟨-20, -20⟩, ⟨-1, 1⟩] ⟨-1, 1, 0, 0, 0⟩ = (⟨⟨0, 0⟩, ⟨0, 0⟩⟩, 41) := by decide +kernel
  have b2 : goodE [⟨⟨50000, 50010⟩, ⟨800, 800⟩, 9⟩, ⟨⟨60000, 60000⟩, ⟨1600, 1600⟩, 12⟩] [⟨20, 20⟩, ⟨-20, -20⟩, ⟨-1, 1⟩] ⟨⟨700000, 900000⟩, 2000⟩ ⟨-1, 1, 0, 0, 0⟩ = (false, 41) := by decide +kernel
  have c2 : goodE [⟨⟨50000, 50010⟩, ⟨800, 800⟩, 9⟩, ⟨⟨60000, 60000⟩, ⟨1600, 1600⟩, 12⟩] [⟨20, 20⟩, ⟨-20, -20⟩, ⟨-1, 1⟩] ⟨⟨700000, 900000⟩, -1⟩ ⟨-1, 1, 0, 0, 0⟩ = (false, 43) := by decide +kernel
  have a3 : spansE [⟨⟨50000, 50010⟩, ⟨800, 800⟩, 9⟩, ⟨⟨60000, 60000⟩, ⟨1600, 1600⟩, 12⟩] [⟨20, 20⟩, ⟨-20, -20⟩, ⟨-1, 1⟩] ⟨0, 1, 0, 3, 0⟩ = (⟨⟨0, 0⟩, ⟨0, 0⟩⟩, 41) := by decide +kernel
  have b3 : goodE [⟨⟨50000, 50010⟩, ⟨800, 800⟩, 9⟩, ⟨⟨60000, 60000⟩, ⟨1600, 1600⟩, 12⟩] [⟨20, 20⟩, ⟨-20, -20⟩, ⟨-1, 1⟩] ⟨⟨700000, 900000⟩, 2000⟩ ⟨0, 1, 0, 3, 0⟩ = (false, 41) := by decide +kernel
  have c3 : goodE [⟨⟨50000, 50010⟩, ⟨800, 800⟩, 9⟩, ⟨⟨60000, 60000⟩, ⟨1600, 1600⟩, 12⟩] [⟨20, 20⟩, ⟨-20, -20⟩, ⟨-1, 1⟩] ⟨⟨700000, 900000⟩, -1⟩ ⟨0, 1, 0, 3, 0⟩ = (false, 43) := by decide +kernel
  have uB0 : unBlanks [.int .i64 50000, .int .i64 50010, .int .i64 800, .int .i64 800, .int .i64 9, .int .i64 60000, .int .i64 60000, .int .i64 1600, .int .i64 1600, .int .i64 12] = some [⟨⟨50000, 50010⟩, ⟨800, 800⟩, 9⟩, ⟨⟨60000, 60000⟩, ⟨1600, 1600⟩, 12⟩] := unBlanks_eq [⟨⟨50000, 50010⟩, ⟨800, 800⟩, 9⟩, ⟨⟨60000, 60000⟩, ⟨1600, 1600⟩, 12⟩]
  have uB1 : unBlanks [.int .i64 50000, .int .i64 50010, .int .i64 800, .int .i64 800, .int .i64 9] = some [⟨⟨50000, 50010⟩, ⟨800, 800⟩, 9⟩] := unBlanks_eq [⟨⟨50000, 50010⟩, ⟨800, 800⟩, 9⟩]
  have uB2 : unBlanks [.int .i64 3, .int .i64 2, .int .i64 800, .int .i64 800, .int .i64 9, .int .i64 60000, .int .i64 60000, .int .i64 1600, .int .i64 1600, .int .i64 12] = some [⟨⟨3, 2⟩, ⟨800, 800⟩, 9⟩, ⟨⟨60000, 60000⟩, ⟨1600, 1600⟩, 12⟩] := unBlanks_eq [⟨⟨3, 2⟩, ⟨800, 800⟩, 9⟩, ⟨⟨60000, 60000⟩, ⟨1600, 1600⟩, 12⟩]
  have uB3 : unBlanks [.int .i64 50000, .int .i64 50010, .int .i64 800, .int .i64 800, .int .i64 9, .int .i64 60000, .int .i64 60000, .int .i64 0, .int .i64 2, .int .i64 12] = some [⟨⟨50000, 50010⟩, ⟨800, 800⟩, 9⟩, ⟨⟨60000, 60000⟩, ⟨0, 2⟩, 12⟩] := unBlanks_eq [⟨⟨50000, 50010⟩, ⟨800, 800⟩, 9⟩, ⟨⟨60000, 60000⟩, ⟨0, 2⟩, 12⟩]
  have uB5 : unBlanks [.int .i64 50000, .int .i64 50010, .int .i64 800, .int .i64 800, .int .i64 9, .int .i64 60000, .int .i64 60000, .int .i64 1600, .int .i64 1600, .int .i64 (-1)] = some [⟨⟨50000, 50010⟩, ⟨800, 800⟩, 9⟩, ⟨⟨60000, 60000⟩, ⟨1600, 1600⟩, -1⟩] := unBlanks_eq [⟨⟨50000, 50010⟩, ⟨800, 800⟩, 9⟩, ⟨⟨60000, 60000⟩, ⟨1600, 1600⟩, -1⟩]
  have uT0 : unSpans [.int .i64 20, .int .i64 20, .int .i64 (-20), .int .i64 (-20), .int .i64 (-1), .int .i64 1] = some [⟨20, 20⟩, ⟨-20, -20⟩, ⟨-1, 1⟩] := unSpans_eq [⟨20, 20⟩, ⟨-20, -20⟩, ⟨-1, 1⟩]
  have uT4 : unSpans [.int .i64 20, .int .i64 20, .int .i64 (-1001), .int .i64 0, .int .i64 (-1), .int .i64 1] = some [⟨20, 20⟩, ⟨-1001, 0⟩, ⟨-1, 1⟩] := unSpans_eq [⟨20, 20⟩, ⟨-1001, 0⟩, ⟨-1, 1⟩]
  have uI0 : unI [.int .i64 50011, .int .i64 60000] = some [50011, 60000] := unI_eq [50011, 60000]
  have uI1 : unI [.int .i64 800, .int .i64 1600] = some [800, 1600] := unI_eq [800, 1600]
  have uI2 : unI [.int .i64 20, .int .i64 (-20), .int .i64 0] = some [20, -20, 0] := unI_eq [20, -20, 0]
  have uI3 : unI [.int .i64 50000, .int .i64 60000] = some [50000, 60000] := unI_eq [50000, 60000]
  have uI4 : unI [.int .i64 20, .int .i64 (-20)] = some [20, -20] := unI_eq [20, -20]
  have uF0 : unFrs [.int .i64 0, .int .i64 0, .int .i64 0, .int .i64 0, .int .i64 0, .int .i64 0, .int .i64 0, .int .i64 0, .int .i64 0, .int .i64 0, .int .i64 0, .int .i64 0, .int .i64 0, .int .i64 0, .int .i64 0, .int .i64 0, .int .i64 0, .int .i64 0, .int .i64 0, .int .i64 0, .int .i64 0, .int .i64 0, .int .i64 0, .int .i64 0, .int .i64 0, .int .i64 0, .int .i64 0, .int .i64 0, .int .i64 0, .int .i64 0, .int .i64 0, .int .i64 0, .int .i64 0, .int .i64 0, .int .i64 0, .int .i64 0, .int .i64 0, .int .i64 0, .int .i64 0, .int .i64 0, .int .i64 0, .int .i64 0, .int .i64 0, .int .i64 0, .int .i64 0, .int .i64 0, .int .i64 0, .int .i64 0, .int .i64 0, .int .i64 0, .int .i64 0, .int .i64 0, .int .i64 0, .int .i64 0, .int .i64 0, .int .i64 0, .int .i64 0, .int .i64 0, .int .i64 0, .int .i64 0, .int .i64 0, .int .i64 0, .int .i64 0, .int .i64 0, .int .i64 0] = some [⟨⟨0, 0⟩, ⟨0, 0⟩, 0⟩, ⟨⟨0, 0⟩, ⟨0, 0⟩, 0⟩, ⟨⟨0, 0⟩, ⟨0, 0⟩, 0⟩, ⟨⟨0, 0⟩, ⟨0, 0⟩, 0⟩, ⟨⟨0, 0⟩, ⟨0, 0⟩, 0⟩, ⟨⟨0, 0⟩, ⟨0, 0⟩, 0⟩, ⟨⟨0, 0⟩, ⟨0, 0⟩, 0⟩, ⟨⟨0, 0⟩, ⟨0, 0⟩, 0⟩, ⟨⟨0, 0⟩, ⟨0, 0⟩, 0⟩, ⟨⟨0, 0⟩, ⟨0, 0⟩, 0⟩, ⟨⟨0, 0⟩, ⟨0, 0⟩, 0⟩, ⟨⟨0, 0⟩, ⟨0, 0⟩, 0⟩, ⟨⟨0, 0⟩, ⟨0, 0⟩, 0⟩] := unFrs_eq [⟨⟨0, 0⟩, ⟨0, 0⟩, 0⟩, ⟨⟨0, 0⟩, ⟨0, 0⟩, 0⟩, ⟨⟨0, 0⟩, ⟨0, 0⟩, 0⟩, ⟨⟨0, 0⟩, ⟨0, 0⟩, 0⟩, ⟨⟨0, 0⟩, ⟨0, 0⟩, 0⟩, ⟨⟨0, 0⟩, ⟨0, 0⟩, 0⟩, ⟨⟨0, 0⟩, ⟨0, 0⟩, 0⟩, ⟨⟨0, 0⟩, ⟨0, 0⟩, 0⟩, ⟨⟨0, 0⟩, ⟨0, 0⟩, 0⟩, ⟨⟨0, 0⟩, ⟨0, 0⟩, 0⟩, ⟨⟨0, 0⟩, ⟨0, 0⟩, 0⟩, ⟨⟨0, 0⟩, ⟨0, 0⟩, 0⟩, ⟨⟨0, 0⟩, ⟨0, 0⟩, 0⟩]
  have uF1 : unFrs [.int .i64 0, .int .i64 0, .int .i64 0, .int .i64 0, .int .i64 2] = some [⟨⟨0, 0⟩, ⟨0, 0⟩, 2⟩] := unFrs_eq [⟨⟨0, 0⟩, ⟨0, 0⟩, 2⟩]
  have uF2 : unFrs [.int .i64 100, .int .i64 100, .int .i64 5, .int .i64 6, .int .i64 0, .int .i64 100, .int .i64 103, .int .i64 3, .int .i64 3, .int .i64 (-1)] = some [⟨⟨100, 100⟩, ⟨5, 6⟩, 0⟩, ⟨⟨100, 103⟩, ⟨3, 3⟩, -1⟩] := unFrs_eq [⟨⟨100, 100⟩, ⟨5, 6⟩, 0⟩, ⟨⟨100, 103⟩, ⟨3, 3⟩, -1⟩]
  have uF3 : unFrs [.int .i64 0, .int .i64 0, .int .i64 0, .int .i64 1001, .int .i64 0] = some [⟨⟨0, 0⟩, ⟨0, 1001⟩, 0⟩] := unFrs_eq [⟨⟨0, 0⟩, ⟨0, 1001⟩, 0⟩]
  have uF4 : unFrs [.int .i64 100, .int .i64 100, .int .i64 5, .int .i64 6, .int .i64 0] = some [⟨⟨100, 100⟩, ⟨5, 6⟩, 0⟩] := unFrs_eq [⟨⟨100, 100⟩, ⟨5, 6⟩, 0⟩]
  have uF5 : unFrs [.int .i64 7, .int .i64 8, .int .i64 0, .int .i64 0, .int .i64 0] = some [⟨⟨7, 8⟩, ⟨0, 0⟩, 0⟩] := unFrs_eq [⟨⟨7, 8⟩, ⟨0, 0⟩, 0⟩]
  have uF6 : unFrs [.int .i64 (-3), .int .i64 3, .int .i64 1, .int .i64 2, .int .i64 1] = some [⟨⟨-3, 3⟩, ⟨1, 2⟩, 1⟩] := unFrs_eq [⟨⟨-3, 3⟩, ⟨1, 2⟩, 1⟩]
  have uF7 : unFrs [.int .i64 (-3), .int .i64 3, .int .i64 1, .int .i64 2, .int .i64 0] = some [⟨⟨-3, 3⟩, ⟨1, 2⟩, 0⟩] := unFrs_eq [⟨⟨-3, 3⟩, ⟨1, 2⟩, 0⟩]
  have uS0 : unSpans [.int .i64 94, .int .i64 95, .int .i64 105, .int .i64 106] = some [⟨94, 95⟩, ⟨105, 106⟩] := unSpans_eq [⟨94, 95⟩, ⟨105, 106⟩]
  have uS1 : unSpans [.int .i64 7, .int .i64 8] = some [⟨7, 8⟩] := unSpans_eq [⟨7, 8⟩]
  have uS2 : unSpans [.int .i64 (-2), .int .i64 5] = some [⟨-2, 5⟩] := unSpans_eq [⟨-2, 5⟩]
  have uS3 : unSpans [.int .i64 (-5), .int .i64 5] = some [⟨-5, 5⟩] := unSpans_eq [⟨-5, 5⟩]
  have b40 : ((40 : Int) != 40) = false := rfl
  have b41 : ((41 : Int) != 41) = false := rfl
  have b43 : ((43 : Int) != 43) = false := rfl
  refine pcalls_by Try.mixes spKc_ok (fn := Try.f3) Try.func3 rfl (by kernel_rfl) (by show 0 ≤ _; decide) ?_
  simp (decide := true) (maxSteps := 4000000) only [go_sem, Nat.reduceAdd, Nat.reduceSub, Nat.reduceMul, Nat.reduceDiv, Nat.reduceMod, Nat.reduceLT, Nat.reduceLeDiff, Nat.reduceEqDiff, Nat.reduceBEq, Nat.reduceBNe, Nat.reduceGT, Int.reduceAdd, Int.reduceSub, Int.reduceMul, Int.reduceNeg, Int.reduceLT, Int.reduceLE, Int.reduceEq, Int.reduceNe, Int.reduceBEq, Int.reduceBNe, Int.reduceToNat, Int.reduceGT, Int.reduceGE, ↓reduceIte, decide_true, decide_false, eq_self, Nat.mul_one, Nat.zero_mul, Nat.one_mul, Int.le_refl, Nat.le_refl, Int.cast_ofNat_Int, Try.f3, sliceG]
  refine pwpC_loopU (A := { k : Nat // k ≤ 6 }) [0, 1] (fun k => [(2, .t (.int .i64 k.1))]) (fun k => [(1, rwO (decide (1 < k.1)) [.int .i64 50000, .int .i64 50010, .int .i64 800, .int .i64 800, .int .i64 9, .int .i64 60000, .int .i64 60000, .int .i64 1600, .int .i64 1600, .int .i64 12] 32 5), (2, rwO (decide (1 < k.1)) [.int .i64 20, .int .i64 20, .int .i64 (-20), .int .i64 (-20), .int .i64 (-1), .int .i64 1] 29 2), (4, rwO (decide (2 < k.1)) [.int .i64 3, .int .i64 2, .int .i64 800, .int .i64 800, .int .i64 9, .int .i64 60000, .int .i64 60000, .int .i64 1600, .int .i64 1600, .int .i64 12] 32 5), (5, rwO (decide (2 < k.1)) [.int .i64 20, .int .i64 20, .int .i64 (-20), .int .i64 (-20), .int .i64 (-1), .int .i64 1] 29 2), (7, rwO (decide (3 < k.1)) [.int .i64 50000, .int .i64 50010, .int .i64 800, .int .i64 800, .int .i64 9, .int .i64 60000, .int .i64 60000, .int .i64 0, .int .i64 2, .int .i64 12] 32 5), (8, rwO (decide (3 < k.1)) [.int .i64 20, .int .i64 20, .int .i64 (-20), .int .i64 (-20), .int .i64 (-1), .int .i64 1] 29 2), (10, rwO (decide (4 < k.1)) [.int .i64 50000, .int .i64 50010, .int .i64 800, .int .i64 800, .int .i64 9, .int .i64 60000, .int .i64 60000, .int .i64 1600, .int .i64 1600, .int .i64 12] 32 5), (11, rwO (decide (4 < k.1)) [.int .i64 20, .int .i64 20, .int .i64 (-1001), .int .i64 0, .int .i64 (-1), .int .i64 1] 29 2), (13, rwO (decide (5 < k.1)) [.int .i64 50000, .int .i64 50010, .int .i64 800, .int .i64 800, .int .i64 9, .int .i64 60000, .int .i64 60000, .int .i64 1600, .int .i64 1600, .int .i64 (-1)] 32 5), (14, rwO (decide (5 < k.1)) [.int .i64 20, .int .i64 20, .int .i64 (-20), .int .i64 (-20), .int .i64 (-1), .int .i64 1] 29 2)]) (fun k => 6 - k.1) ⟨0, by omega⟩ (by decide) (fun _ => by rfl) ?_ fun Q1 hQ1 ⟨k, hk⟩ I1 hI1 => ?_
  · simp (decide := true) (maxSteps := 4000000) only [go_sem, Nat.reduceAdd, Nat.reduceSub, Nat.reduceMul, Nat.reduceDiv, Nat.reduceMod, Nat.reduceLT, Nat.reduceLeDiff, Nat.reduceEqDiff, Nat.reduceBEq, Nat.reduceBNe, Nat.reduceGT, Int.reduceAdd, Int.reduceSub, Int.reduceMul, Int.reduceNeg, Int.reduceLT, Int.reduceLE, Int.reduceEq, Int.reduceNe, Int.reduceBEq, Int.reduceBNe, Int.reduceToNat, Int.reduceGT, Int.reduceGE, ↓reduceIte, decide_true, decide_false, eq_self, Nat.mul_one, Nat.zero_mul, Nat.one_mul, Int.le_refl, Nat.le_refl, Int.cast_ofNat_Int, rwO]
  · rcases (show k = 0 ∨ k = 1 ∨ k = 2 ∨ k = 3 ∨ k = 4 ∨ k = 5 ∨ k = 6 by omega) with rfl | rfl | rfl | rfl | rfl | rfl | rfl
    · have c1 : (0 : Int) < 6 := by decide
      have w1 : IntKind.i64.wrap 1 = 1 := rfl
      simp (decide := true) (maxSteps := 4000000) only [go_sem, Nat.reduceAdd, Nat.reduceSub, Nat.reduceMul, Nat.reduceDiv, Nat.reduceMod, Nat.reduceLT, Nat.reduceLeDiff, Nat.reduceEqDiff, Nat.reduceBEq, Nat.reduceBNe, Nat.reduceGT, Int.reduceAdd, Int.reduceSub, Int.reduceMul, Int.reduceNeg, Int.reduceLT, Int.reduceLE, Int.reduceEq, Int.reduceNe, Int.reduceBEq, Int.reduceBNe, Int.reduceToNat, Int.reduceGT, Int.reduceGE, ↓reduceIte, decide_true, decide_false, eq_self, Nat.mul_one, Nat.zero_mul, Nat.one_mul, Int.le_refl, Nat.le_refl, Int.cast_ofNat_Int, rwO, freezeW, freezeO, closedG, seenF, wr, upo, thawA, thawC, sliceG, c1, u1, u2, u3, er, uB0, uB1, uB2, uB3, uB5, uT0, uT4, h0, seen40 h0, spans40 h0, good40 h0, best40 h0, most40 h0, b40, Ob.t, Ob.cs, Span.t, Span.cs, List.length_nil, List.length_cons]
      refine hI1 _ ⟨1, by omega⟩ (by simp only; omega) ?_
      simp (decide := true) (maxSteps := 4000000) only [go_sem, Nat.reduceAdd, Nat.reduceSub, Nat.reduceMul, Nat.reduceDiv, Nat.reduceMod, Nat.reduceLT, Nat.reduceLeDiff, Nat.reduceEqDiff, Nat.reduceBEq, Nat.reduceBNe, Nat.reduceGT, Int.reduceAdd, Int.reduceSub, Int.reduceMul, Int.reduceNeg, Int.reduceLT, Int.reduceLE, Int.reduceEq, Int.reduceNe, Int.reduceBEq, Int.reduceBNe, Int.reduceToNat, Int.reduceGT, Int.reduceGE, ↓reduceIte, decide_true, decide_false, eq_self, Nat.mul_one, Nat.zero_mul, Nat.one_mul, Int.le_refl, Nat.le_refl, Int.cast_ofNat_Int, rwO, w1]
    · have c1 : (1 : Int) < 6 := by decide
      have w1 : IntKind.i64.wrap 2 = 2 := rfl
      simp (decide := true) (maxSteps := 4000000) only [go_sem, Nat.reduceAdd, Nat.reduceSub, Nat.reduceMul, Nat.reduceDiv, Nat.reduceMod, Nat.reduceLT, Nat.reduceLeDiff, Nat.reduceEqDiff, Nat.reduceBEq, Nat.reduceBNe, Nat.reduceGT, Int.reduceAdd, Int.reduceSub, Int.reduceMul, Int.reduceNeg, Int.reduceLT, Int.reduceLE, Int.reduceEq, Int.reduceNe, Int.reduceBEq, Int.reduceBNe, Int.reduceToNat, Int.reduceGT, Int.reduceGE, ↓reduceIte, decide_true, decide_false, eq_self, Nat.mul_one, Nat.zero_mul, Nat.one_mul, Int.le_refl, Nat.le_refl, Int.cast_ofNat_Int, rwO, freezeW, freezeO, closedG, seenF, wr, upo, thawA, thawC, sliceG, c1, u1, u2, u3, er, uB0, uB1, uB2, uB3, uB5, uT0, uT4, h1, seen40 h1, spans40 h1, good40 h1, best40 h1, most40 h1, b40, Ob.t, Ob.cs, Span.t, Span.cs, List.length_nil, List.length_cons]
      refine hI1 _ ⟨2, by omega⟩ (by simp only; omega) ?_
      simp (decide := true) (maxSteps := 4000000) only [go_sem, Nat.reduceAdd, Nat.reduceSub, Nat.reduceMul, Nat.reduceDiv, Nat.reduceMod, Nat.reduceLT, Nat.reduceLeDiff, Nat.reduceEqDiff, Nat.reduceBEq, Nat.reduceBNe, Nat.reduceGT, Int.reduceAdd, Int.reduceSub, Int.reduceMul, Int.reduceNeg, Int.reduceLT, Int.reduceLE, Int.reduceEq, Int.reduceNe, Int.reduceBEq, Int.reduceBNe, Int.reduceToNat, Int.reduceGT, Int.reduceGE, ↓reduceIte, decide_true, decide_false, eq_self, Nat.mul_one, Nat.zero_mul, Nat.one_mul, Int.le_refl, Nat.le_refl, Int.cast_ofNat_Int, rwO, w1]
    · have c1 : (2 : Int) < 6 := by decide
      have w1 : IntKind.i64.wrap 3 = 3 := rfl
      simp (decide := true) (maxSteps := 4000000) only [go_sem, Nat.reduceAdd, Nat.reduceSub, Nat.reduceMul, Nat.reduceDiv, Nat.reduceMod, Nat.reduceLT, Nat.reduceLeDiff, Nat.reduceEqDiff, Nat.reduceBEq, Nat.reduceBNe, Nat.reduceGT, Int.reduceAdd, Int.reduceSub, Int.reduceMul, Int.reduceNeg, Int.reduceLT, Int.reduceLE, Int.reduceEq, Int.reduceNe, Int.reduceBEq, Int.reduceBNe, Int.reduceToNat, Int.reduceGT, Int.reduceGE, ↓reduceIte, decide_true, decide_false, eq_self, Nat.mul_one, Nat.zero_mul, Nat.one_mul, Int.le_refl, Nat.le_refl, Int.cast_ofNat_Int, rwO, freezeW, freezeO, closedG, seenF, wr, upo, thawA, thawC, sliceG, c1, u1, u2, u3, er, uB0, uB1, uB2, uB3, uB5, uT0, uT4, h2, seen40 h2, spans40 h2, good40 h2, best40 h2, most40 h2, b40, Ob.t, Ob.cs, Span.t, Span.cs, List.length_nil, List.length_cons]
      refine hI1 _ ⟨3, by omega⟩ (by simp only; omega) ?_
      simp (decide := true) (maxSteps := 4000000) only [go_sem, Nat.reduceAdd, Nat.reduceSub, Nat.reduceMul, Nat.reduceDiv, Nat.reduceMod, Nat.reduceLT, Nat.reduceLeDiff, Nat.reduceEqDiff, Nat.reduceBEq, Nat.reduceBNe, Nat.reduceGT, Int.reduceAdd, Int.reduceSub, Int.reduceMul, Int.reduceNeg, Int.reduceLT, Int.reduceLE, Int.reduceEq, Int.reduceNe, Int.reduceBEq, Int.reduceBNe, Int.reduceToNat, Int.reduceGT, Int.reduceGE, ↓reduceIte, decide_true, decide_false, eq_self, Nat.mul_one, Nat.zero_mul, Nat.one_mul, Int.le_refl, Nat.le_refl, Int.cast_ofNat_Int, rwO, w1]
    · have c1 : (3 : Int) < 6 := by decide
      have w1 : IntKind.i64.wrap 4 = 4 := rfl
      simp (decide := true) (maxSteps := 4000000) only [go_sem, Nat.reduceAdd, Nat.reduceSub, Nat.reduceMul, Nat.reduceDiv, Nat.reduceMod, Nat.reduceLT, Nat.reduceLeDiff, Nat.reduceEqDiff, Nat.reduceBEq, Nat.reduceBNe, Nat.reduceGT, Int.reduceAdd, Int.reduceSub, Int.reduceMul, Int.reduceNeg, Int.reduceLT, Int.reduceLE, Int.reduceEq, Int.reduceNe, Int.reduceBEq, Int.reduceBNe, Int.reduceToNat, Int.reduceGT, Int.reduceGE, ↓reduceIte, decide_true, decide_false, eq_self, Nat.mul_one, Nat.zero_mul, Nat.one_mul, Int.le_refl, Nat.le_refl, Int.cast_ofNat_Int, rwO, freezeW, freezeO, closedG, seenF, wr, upo, thawA, thawC, sliceG, c1, u1, u2, u3, er, uB0, uB1, uB2, uB3, uB5, uT0, uT4, h3, seen40 h3, spans40 h3, good40 h3, best40 h3, most40 h3, b40, Ob.t, Ob.cs, Span.t, Span.cs, List.length_nil, List.length_cons]
      refine hI1 _ ⟨4, by omega⟩ (by simp only; omega) ?_
      simp (decide := true) (maxSteps := 4000000) only [go_sem, Nat.reduceAdd, Nat.reduceSub, Nat.reduceMul, Nat.reduceDiv, Nat.reduceMod, Nat.reduceLT, Nat.reduceLeDiff, Nat.reduceEqDiff, Nat.reduceBEq, Nat.reduceBNe, Nat.reduceGT, Int.reduceAdd, Int.reduceSub, Int.reduceMul, Int.reduceNeg, Int.reduceLT, Int.reduceLE, Int.reduceEq, Int.reduceNe, Int.reduceBEq, Int.reduceBNe, Int.reduceToNat, Int.reduceGT, Int.reduceGE, ↓reduceIte, decide_true, decide_false, eq_self, Nat.mul_one, Nat.zero_mul, Nat.one_mul, Int.le_refl, Nat.le_refl, Int.cast_ofNat_Int, rwO, w1]
    · have c1 : (4 : Int) < 6 := by decide
      have w1 : IntKind.i64.wrap 5 = 5 := rfl
      simp (decide := true) (maxSteps := 4000000) only [go_sem, Nat.reduceAdd, Nat.reduceSub, Nat.reduceMul, Nat.reduceDiv, Nat.reduceMod, Nat.reduceLT, Nat.reduceLeDiff, Nat.reduceEqDiff, Nat.reduceBEq, Nat.reduceBNe, Nat.reduceGT, Int.reduceAdd, Int.reduceSub, Int.reduceMul, Int.reduceNeg, Int.reduceLT, Int.reduceLE, Int.reduceEq, Int.reduceNe, Int.reduceBEq, Int.reduceBNe, Int.reduceToNat, Int.reduceGT, Int.reduceGE, ↓reduceIte, decide_true, decide_false, eq_self, Nat.mul_one, Nat.zero_mul, Nat.one_mul, Int.le_refl, Nat.le_refl, Int.cast_ofNat_Int, rwO, freezeW, freezeO, closedG, seenF, wr, upo, thawA, thawC, sliceG, c1, u1, u2, u3, er, uB0, uB1, uB2, uB3, uB5, uT0, uT4, h4, seen40 h4, spans40 h4, good40 h4, best40 h4, most40 h4, b40, Ob.t, Ob.cs, Span.t, Span.cs, List.length_nil, List.length_cons]
      refine hI1 _ ⟨5, by omega⟩ (by simp only; omega) ?_
      simp (decide := true) (maxSteps := 4000000) only [go_sem, Nat.reduceAdd, Nat.reduceSub, Nat.reduceMul, Nat.reduceDiv, Nat.reduceMod, Nat.reduceLT, Nat.reduceLeDiff, Nat.reduceEqDiff, Nat.reduceBEq, Nat.reduceBNe, Nat.reduceGT, Int.reduceAdd, Int.reduceSub, Int.reduceMul, Int.reduceNeg, Int.reduceLT, Int.reduceLE, Int.reduceEq, Int.reduceNe, Int.reduceBEq, Int.reduceBNe, Int.reduceToNat, Int.reduceGT, Int.reduceGE, ↓reduceIte, decide_true, decide_false, eq_self, Nat.mul_one, Nat.zero_mul, Nat.one_mul, Int.le_refl, Nat.le_refl, Int.cast_ofNat_Int, rwO, w1]
    · have c1 : (5 : Int) < 6 := by decide
      have w1 : IntKind.i64.wrap 6 = 6 := rfl
      simp (decide := true) (maxSteps := 4000000) only [go_sem, Nat.reduceAdd, Nat.reduceSub, Nat.reduceMul, Nat.reduceDiv, Nat.reduceMod, Nat.reduceLT, Nat.reduceLeDiff, Nat.reduceEqDiff, Nat.reduceBEq, Nat.reduceBNe, Nat.reduceGT, Int.reduceAdd, Int.reduceSub, Int.reduceMul, Int.reduceNeg, Int.reduceLT, Int.reduceLE, Int.reduceEq, Int.reduceNe, Int.reduceBEq, Int.reduceBNe, Int.reduceToNat, Int.reduceGT, Int.reduceGE, ↓reduceIte, decide_true, decide_false, eq_self, Nat.mul_one, Nat.zero_mul, Nat.one_mul, Int.le_refl, Nat.le_refl, Int.cast_ofNat_Int, rwO, freezeW, freezeO, closedG, seenF, wr, upo, thawA, thawC, sliceG, c1, u1, u2, u3, er, uB0, uB1, uB2, uB3, uB5, uT0, uT4, h5, seen40 h5, spans40 h5, good40 h5, best40 h5, most40 h5, b40, Ob.t, Ob.cs, Span.t, Span.cs, List.length_nil, List.length_cons]
      refine hI1 _ ⟨6, by omega⟩ (by simp only; omega) ?_
      simp (decide := true) (maxSteps := 4000000) only [go_sem, Nat.reduceAdd, Nat.reduceSub, Nat.reduceMul, Nat.reduceDiv, Nat.reduceMod, Nat.reduceLT, Nat.reduceLeDiff, Nat.reduceEqDiff, Nat.reduceBEq, Nat.reduceBNe, Nat.reduceGT, Int.reduceAdd, Int.reduceSub, Int.reduceMul, Int.reduceNeg, Int.reduceLT, Int.reduceLE, Int.reduceEq, Int.reduceNe, Int.reduceBEq, Int.reduceBNe, Int.reduceToNat, Int.reduceGT, Int.reduceGE, ↓reduceIte, decide_true, decide_false, eq_self, Nat.mul_one, Nat.zero_mul, Nat.one_mul, Int.le_refl, Nat.le_refl, Int.cast_ofNat_Int, rwO, w1]
    · simp (decide := true) (maxSteps := 4000000) only [go_sem, Nat.reduceAdd, Nat.reduceSub, Nat.reduceMul, Nat.reduceDiv, Nat.reduceMod, Nat.reduceLT, Nat.reduceLeDiff, Nat.reduceEqDiff, Nat.reduceBEq, Nat.reduceBNe, Nat.reduceGT, Int.reduceAdd, Int.reduceSub, Int.reduceMul, Int.reduceNeg, Int.reduceLT, Int.reduceLE, Int.reduceEq, Int.reduceNe, Int.reduceBEq, Int.reduceBNe, Int.reduceToNat, Int.reduceGT, Int.reduceGE, ↓reduceIte, decide_true, decide_false, eq_self, Nat.mul_one, Nat.zero_mul, Nat.one_mul, Int.le_refl, Nat.le_refl, Int.cast_ofNat_Int, rwO]
      refine hQ1 _ _ ?_
      simp (decide := true) (maxSteps := 4000000) only [go_sem, Nat.reduceAdd, Nat.reduceSub, Nat.reduceMul, Nat.reduceDiv, Nat.reduceMod, Nat.reduceLT, Nat.reduceLeDiff, Nat.reduceEqDiff, Nat.reduceBEq, Nat.reduceBNe, Nat.reduceGT, Int.reduceAdd, Int.reduceSub, Int.reduceMul, Int.reduceNeg, Int.reduceLT, Int.reduceLE, Int.reduceEq, Int.reduceNe, Int.reduceBEq, Int.reduceBNe, Int.reduceToNat, Int.reduceGT, Int.reduceGE, ↓reduceIte, decide_true, decide_false, eq_self, Nat.mul_one, Nat.zero_mul, Nat.one_mul, Int.le_refl, Nat.le_refl, Int.cast_ofNat_Int, rwO]
      refine pwpC_loopU (A := { k : Nat // k ≤ 4 }) [0, 16] (fun k => [(17, .t (.int .i64 k.1))]) (fun k => []) (fun k => 4 - k.1) ⟨0, by omega⟩ (by decide) (fun _ => by rfl) ?_ fun Q2 hQ2 ⟨k, hk⟩ I2 hI2 => ?_
      · simp (decide := true) (maxSteps := 4000000) only [go_sem, Nat.reduceAdd, Nat.reduceSub, Nat.reduceMul, Nat.reduceDiv, Nat.reduceMod, Nat.reduceLT, Nat.reduceLeDiff, Nat.reduceEqDiff, Nat.reduceBEq, Nat.reduceBNe, Nat.reduceGT, Int.reduceAdd, Int.reduceSub, Int.reduceMul, Int.reduceNeg, Int.reduceLT, Int.reduceLE, Int.reduceEq, Int.reduceNe, Int.reduceBEq, Int.reduceBNe, Int.reduceToNat, Int.reduceGT, Int.reduceGE, ↓reduceIte, decide_true, decide_false, eq_self, Nat.mul_one, Nat.zero_mul, Nat.one_mul, Int.le_refl, Nat.le_refl, Int.cast_ofNat_Int]
      · rcases (show k = 0 ∨ k = 1 ∨ k = 2 ∨ k = 3 ∨ k = 4 by omega) with rfl | rfl | rfl | rfl | rfl
        · have ck : (0 : Int) < 4 := by decide
          have w1 : IntKind.i64.wrap 1 = 1 := rfl
          simp (decide := true) (maxSteps := 4000000) only [go_sem, Nat.reduceAdd, Nat.reduceSub, Nat.reduceMul, Nat.reduceDiv, Nat.reduceMod, Nat.reduceLT, Nat.reduceLeDiff, Nat.reduceEqDiff, Nat.reduceBEq, Nat.reduceBNe, Nat.reduceGT, Int.reduceAdd, Int.reduceSub, Int.reduceMul, Int.reduceNeg, Int.reduceLT, Int.reduceLE, Int.reduceEq, Int.reduceNe, Int.reduceBEq, Int.reduceBNe, Int.reduceToNat, Int.reduceGT, Int.reduceGE, ↓reduceIte, decide_true, decide_false, eq_self, Nat.mul_one, Nat.zero_mul, Nat.one_mul, Int.le_refl, Nat.le_refl, Int.cast_ofNat_Int, freezeW, freezeO, closedG, seenF, wr, upo, thawA, thawC, sliceG, ck, uB0, uT0, a0, b0, c0, b41, b43, Ob.t, Ob.cs, Span.t, Span.cs, List.length_nil, List.length_cons]
          refine hI2 _ ⟨1, by omega⟩ (by simp only; omega) ?_
          simp (decide := true) (maxSteps := 4000000) only [go_sem, Nat.reduceAdd, Nat.reduceSub, Nat.reduceMul, Nat.reduceDiv, Nat.reduceMod, Nat.reduceLT, Nat.reduceLeDiff, Nat.reduceEqDiff, Nat.reduceBEq, Nat.reduceBNe, Nat.reduceGT, Int.reduceAdd, Int.reduceSub, Int.reduceMul, Int.reduceNeg, Int.reduceLT, Int.reduceLE, Int.reduceEq, Int.reduceNe, Int.reduceBEq, Int.reduceBNe, Int.reduceToNat, Int.reduceGT, Int.reduceGE, ↓reduceIte, decide_true, decide_false, eq_self, Nat.mul_one, Nat.zero_mul, Nat.one_mul, Int.le_refl, Nat.le_refl, Int.cast_ofNat_Int, w1]
        · have ck : (1 : Int) < 4 := by decide
          have w1 : IntKind.i64.wrap 2 = 2 := rfl
          simp (decide := true) (maxSteps := 4000000) only [go_sem, Nat.reduceAdd, Nat.reduceSub, Nat.reduceMul, Nat.reduceDiv, Nat.reduceMod, Nat.reduceLT, Nat.reduceLeDiff, Nat.reduceEqDiff, Nat.reduceBEq, Nat.reduceBNe, Nat.reduceGT, Int.reduceAdd, Int.reduceSub, Int.reduceMul, Int.reduceNeg, Int.reduceLT, Int.reduceLE, Int.reduceEq, Int.reduceNe, Int.reduceBEq, Int.reduceBNe, Int.reduceToNat, Int.reduceGT, Int.reduceGE, ↓reduceIte, decide_true, decide_false, eq_self, Nat.mul_one, Nat.zero_mul, Nat.one_mul, Int.le_refl, Nat.le_refl, Int.cast_ofNat_Int, freezeW, freezeO, closedG, seenF, wr, upo, thawA, thawC, sliceG, ck, uB0, uT0, a1, b1, c1, b41, b43, Ob.t, Ob.cs, Span.t, Span.cs, List.length_nil, List.length_cons]
          refine hI2 _ ⟨2, by omega⟩ (by simp only; omega) ?_
          simp (decide := true) (maxSteps := 4000000) only [go_sem, Nat.reduceAdd, Nat.reduceSub, Nat.reduceMul, Nat.reduceDiv, Nat.reduceMod, Nat.reduceLT, Nat.reduceLeDiff, Nat.reduceEqDiff, Nat.reduceBEq, Nat.reduceBNe, Nat.reduceGT, Int.reduceAdd, Int.reduceSub, Int.reduceMul, Int.reduceNeg, Int.reduceLT, Int.reduceLE, Int.reduceEq, Int.reduceNe, Int.reduceBEq, Int.reduceBNe, Int.reduceToNat, Int.reduceGT, Int.reduceGE, ↓reduceIte, decide_true, decide_false, eq_self, Nat.mul_one, Nat.zero_mul, Nat.one_mul, Int.le_refl, Nat.le_refl, Int.cast_ofNat_Int, w1]
        · have ck : (2 : Int) < 4 := by decide
          have w1 : IntKind.i64.wrap 3 = 3 := rfl
          simp (decide := true) (maxSteps := 4000000) only [go_sem, Nat.reduceAdd, Nat.reduceSub, Nat.reduceMul, Nat.reduceDiv, Nat.reduceMod, Nat.reduceLT, Nat.reduceLeDiff, Nat.reduceEqDiff, Nat.reduceBEq, Nat.reduceBNe, Nat.reduceGT, Int.reduceAdd, Int.reduceSub, Int.reduceMul, Int.reduceNeg, Int.reduceLT, Int.reduceLE, Int.reduceEq, Int.reduceNe, Int.reduceBEq, Int.reduceBNe, Int.reduceToNat, Int.reduceGT, Int.reduceGE, ↓reduceIte, decide_true, decide_false, eq_self, Nat.mul_one, Nat.zero_mul, Nat.one_mul, Int.le_refl, Nat.le_refl, Int.cast_ofNat_Int, freezeW, freezeO, closedG, seenF, wr, upo, thawA, thawC, sliceG, ck, uB0, uT0, a2, b2, c2, b41, b43, Ob.t, Ob.cs, Span.t, Span.cs, List.length_nil, List.length_cons]
          refine hI2 _ ⟨3, by omega⟩ (by simp only; omega) ?_
          simp (decide := true) (maxSteps := 4000000) only [go_sem, Nat.reduceAdd, Nat.reduceSub, Nat.reduceMul, Nat.reduceDiv, Nat.reduceMod, Nat.reduceLT, Nat.reduceLeDiff, Nat.reduceEqDiff, Nat.reduceBEq, Nat.reduceBNe, Nat.reduceGT, Int.reduceAdd, Int.reduceSub, Int.reduceMul, Int.reduceNeg, Int.reduceLT, Int.reduceLE, Int.reduceEq, Int.reduceNe, Int.reduceBEq, Int.reduceBNe, Int.reduceToNat, Int.reduceGT, Int.reduceGE, ↓reduceIte, decide_true, decide_false, eq_self, Nat.mul_one, Nat.zero_mul, Nat.one_mul, Int.le_refl, Nat.le_refl, Int.cast_ofNat_Int, w1]
        · have ck : (3 : Int) < 4 := by decide
          have w1 : IntKind.i64.wrap 4 = 4 := rfl
          simp (decide := true) (maxSteps := 4000000) only [go_sem, Nat.reduceAdd, Nat.reduceSub, Nat.reduceMul, Nat.reduceDiv, Nat.reduceMod, Nat.reduceLT, Nat.reduceLeDiff, Nat.reduceEqDiff, Nat.reduceBEq, Nat.reduceBNe, Nat.reduceGT, Int.reduceAdd, Int.reduceSub, Int.reduceMul, Int.reduceNeg, Int.reduceLT, Int.reduceLE, Int.reduceEq, Int.reduceNe, Int.reduceBEq, Int.reduceBNe, Int.reduceToNat, Int.reduceGT, Int.reduceGE, ↓reduceIte, decide_true, decide_false, eq_self, Nat.mul_one, Nat.zero_mul, Nat.one_mul, Int.le_refl, Nat.le_refl, Int.cast_ofNat_Int, freezeW, freezeO, closedG, seenF, wr, upo, thawA, thawC, sliceG, ck, uB0, uT0, a3, b3, c3, b41, b43, Ob.t, Ob.cs, Span.t, Span.cs, List.length_nil, List.length_cons]
          refine hI2 _ ⟨4, by omega⟩ (by simp only; omega) ?_
          simp (decide := true) (maxSteps := 4000000) only [go_sem, Nat.reduceAdd, Nat.reduceSub, Nat.reduceMul, Nat.reduceDiv, Nat.reduceMod, Nat.reduceLT, Nat.reduceLeDiff, Nat.reduceEqDiff, Nat.reduceBEq, Nat.reduceBNe, Nat.reduceGT, Int.reduceAdd, Int.reduceSub, Int.reduceMul, Int.reduceNeg, Int.reduceLT, Int.reduceLE, Int.reduceEq, Int.reduceNe, Int.reduceBEq, Int.reduceBNe, Int.reduceToNat, Int.reduceGT, Int.reduceGE, ↓reduceIte, decide_true, decide_false, eq_self, Nat.mul_one, Nat.zero_mul, Nat.one_mul, Int.le_refl, Nat.le_refl, Int.cast_ofNat_Int, w1]
        · simp (decide := true) (maxSteps := 4000000) only [go_sem, Nat.reduceAdd, Nat.reduceSub, Nat.reduceMul, Nat.reduceDiv, Nat.reduceMod, Nat.reduceLT, Nat.reduceLeDiff, Nat.reduceEqDiff, Nat.reduceBEq, Nat.reduceBNe, Nat.reduceGT, Int.reduceAdd, Int.reduceSub, Int.reduceMul, Int.reduceNeg, Int.reduceLT, Int.reduceLE, Int.reduceEq, Int.reduceNe, Int.reduceBEq, Int.reduceBNe, Int.reduceToNat, Int.reduceGT, Int.reduceGE, ↓reduceIte, decide_true, decide_false, eq_self, Nat.mul_one, Nat.zero_mul, Nat.one_mul, Int.le_refl, Nat.le_refl, Int.cast_ofNat_Int]
          refine hQ2 _ _ ?_
          simp (decide := true) (maxSteps := 4000000) only [go_sem, Nat.reduceAdd, Nat.reduceSub, Nat.reduceMul, Nat.reduceDiv, Nat.reduceMod, Nat.reduceLT, Nat.reduceLeDiff, Nat.reduceEqDiff, Nat.reduceBEq, Nat.reduceBNe, Nat.reduceGT, Int.reduceAdd, Int.reduceSub, Int.reduceMul, Int.reduceNeg, Int.reduceLT, Int.reduceLE, Int.reduceEq, Int.reduceNe, Int.reduceBEq, Int.reduceBNe, Int.reduceToNat, Int.reduceGT, Int.reduceGE, ↓reduceIte, decide_true, decide_false, eq_self, Nat.mul_one, Nat.zero_mul, Nat.one_mul, Int.le_refl, Nat.le_refl, Int.cast_ofNat_Int, freezeW, freezeO, closedG, seenF, wr, upo, thawA, thawC, sliceG, u1, u2, u3, u4, er, uB0, uB1, uB2, uB3, uB5, uT0, uT4, uI0, uI1, uI2, uI3, uI4, uF0, uF1, uF2, uF3, uF4, uF5, uF6, uF7, uS0, uS1, uS2, uS3, s0, s1, s2, s3, s4, s5, s6, s7, s8, s9, s10, s11, s12, s13, s14, exO, Ob.t, Ob.cs, Span.t, Span.cs, List.length_nil, List.length_cons, List.flatten_cons, List.flatten_nil, List.append_eq]
          done
end Go.Proofs.Ytadkjjnnnkfalaa.Gl
