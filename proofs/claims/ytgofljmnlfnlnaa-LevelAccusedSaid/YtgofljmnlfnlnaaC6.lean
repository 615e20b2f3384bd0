/- What the claim leans on, text 6. -/
import Derived.Test.YtgofljmnlfnlnaaC5
set_option linter.unusedSimpArgs false
set_option linter.unusedVariables false

/- Part Mi. -/
namespace Go.Oc
open Go Go.Pm Go.Proofs.Ytgofljmnlfnlnaa
/-- Is a tilt met with one of so many zeros, and an end of the value? -/
def metT (v : Vial) (l : List Mk) (t : Int) (j : Nat) : Bool := (List.range j).any fun i => canB v l v.v0 (v.z0 + (i : Int)) t || canB v l v.v1 (v.z0 + (i : Int)) t
theorem metT_succ (v : Vial) (l : List Mk) (t : Int) (j : Nat) : metT v l t (j + 1) = (metT v l t j || (canB v l v.v0 (v.z0 + (j : Int)) t || canB v l v.v1 (v.z0 + (j : Int)) t)) := by
  unfold metT; rw [List.range_succ, List.any_append]; simp
/-- Is a zero met, with one of so many tilts? -/
def metZ (v : Vial) (l : List Mk) (z : Int) (i : Nat) : Bool := (List.range i).any fun k => canB v l v.v0 z (((k : Int) - 408) * v.v0)
theorem metZ_succ (v : Vial) (l : List Mk) (z : Int) (i : Nat) : metZ v l z (i + 1) = (metZ v l z i || canB v l v.v0 z (((i : Int) - 408) * v.v0)) := by
  unfold metZ; rw [List.range_succ, List.any_append]; simp
theorem met_of {v : Vial} (hv : v.ok = true) {l : List Mk} (hm : mksOk l = true) (h1 : 1 ≤ l.length) {z t : Int} (hz : feas v l z) (ht : ((withinS v.wr l z).lo * v.v0 = t ∨ (withinS v.wr l z).hi * v.v0 = t) ∨ ((withinS v.wr l z).lo * v.v1 = t ∨ (withinS v.wr l z).hi * v.v1 = t)) :
    metT v l t (v.z1 - v.z0 + 1).toNat = true := by
  have hv' := Vial.ok_iff.1 hv
  unfold metT
  rw [List.any_eq_true]
  have hzr := hz.1
  refine ⟨(z - v.z0).toNat, List.mem_range.2 (by omega), ?_⟩
  rw [show v.z0 + ((z - v.z0).toNat : Int) = z by omega, Bool.or_eq_true, ← within_can hv hm h1 (by omega) (by omega) hz.1.1 hz.1.2, ← within_can hv hm h1 (by omega) (by omega) hz.1.1 hz.1.2]
  simp only [Bool.and_eq_true, decide_eq_true_eq, inB_iff]
  have h2 := hz.2
  have a := Int.mul_le_mul_of_nonneg_right (c := v.v0) h2 (by omega)
  have b := Int.mul_le_mul_of_nonneg_right (c := v.v1) h2 (by omega)
  rcases ht with ht | ht
  · left; omega
  · right; omega
theorem ends_met {v : Vial} (hv : v.ok = true) {l : List Rd} (hr : rdsOk v l = true) (hi : (tilts v (l.map mid)).is = true) :
    metT v (l.map mid) (tilts v (l.map mid)).tilt.lo (v.z1 - v.z0 + 1).toNat = true ∧ metT v (l.map mid) (tilts v (l.map mid)).tilt.hi (v.z1 - v.z0 + 1).toNat = true ∧
    metZ v (l.map mid) (tilts v (l.map mid)).zero.lo 817 = true ∧ metZ v (l.map mid) (tilts v (l.map mid)).zero.hi 817 = true := by
  have hv' := Vial.ok_iff.1 hv
  have hm := mksOk_mid hv hr
  have h8 := rdsOk_len hr
  have h1 : 1 ≤ (l.map mid).length := by rw [List.length_map]; omega
  obtain ⟨⟨z1, f1, e1⟩, ⟨z2, f2, e2⟩, f3, f4⟩ := tilts_at hi
  have zm : ∀ z, feas v (l.map mid) z → metZ v (l.map mid) z 817 = true := fun z hz => by
    have hz2 := hz.2
    obtain ⟨m, hmm⟩ : ∃ m, m ∈ l.map mid := by
      cases hl : l.map mid with
      | nil => rw [hl] at h1; simp at h1
      | cons m _ => exact ⟨m, List.mem_cons_self⟩
    have ho := outM_b (z := z) (List.all_eq_true.1 hm m hmm) (by have := hz.1; omega)
    have k1 := (fold_in_iff (w := v.wr) (z := z) (c := 1) (t := (withinS v.wr (l.map mid) z).lo) (by omega) (l.map mid) ⟨-10000, 10000⟩).1 (by
      rw [show (l.map mid).foldl (inS v.wr z) ⟨-10000, 10000⟩ = withinS v.wr (l.map mid) z from rfl]; omega)
    have k2 := k1.2 m hmm
    unfold metZ
    rw [List.any_eq_true]
    refine ⟨((withinS v.wr (l.map mid) z).lo + 408).toNat, List.mem_range.2 (by omega), ?_⟩
    rw [show (((withinS v.wr (l.map mid) z).lo + 408).toNat : Int) - 408 = (withinS v.wr (l.map mid) z).lo by omega, ← within_can hv hm h1 (by omega) (by omega) hz.1.1 hz.1.2]
    simp only [Bool.and_eq_true, decide_eq_true_eq, inB_iff]
    have a := Int.mul_le_mul_of_nonneg_right (c := v.v0) hz2 (by omega)
    omega
  refine ⟨met_of hv hm h1 f1 ?_, met_of hv hm h1 f2 ?_, zm _ f3, zm _ f4⟩
  · rw [e1]; unfold leastP; omega
  · rw [e2]; unfold mostP; omega
end Go.Oc
namespace Go.Proofs.Ytgofljmnlfnlnaa
open Go.RowKit Go.Pm Go.Oc
set_option maxRecDepth 100000
set_option linter.unusedVariables false
set_option maxHeartbeats 4000000

theorem orNot (m c : Bool) : (m || !m && c) = (m || c) := by cases m <;> cases c <;> rfl
theorem oSound_c (v : Vial) : PCalls Try.prog 33 [v.t] (.bool v.ok) := by
  refine pcalls_by Try.mixes spO1_ok (fn := Try.f33) Try.func33 rfl (by kernel_rfl) (by show 1 ≤ _; decide) ?_
  cases hv : v.ok with
  | false => simp (decide := true) (maxSteps := 4000000) only [go_sem, Nat.reduceAdd, Nat.reduceSub, Nat.reduceMul, Nat.reduceDiv, Nat.reduceMod, Nat.reduceLT, Nat.reduceLeDiff, Nat.reduceEqDiff, Nat.reduceBEq, Nat.reduceBNe, Nat.reduceGT, Int.reduceAdd, Int.reduceSub, Int.reduceMul, Int.reduceNeg, Int.reduceLT, Int.reduceLE, Int.reduceEq, Int.reduceNe, Int.reduceBEq, Int.reduceBNe, Int.reduceToNat, Int.reduceGT, Int.reduceGE, ↓reduceIte, decide_true, decide_false, eq_self, Nat.mul_one, Nat.zero_mul, Nat.one_mul, Int.le_refl, Nat.le_refl, Int.cast_ofNat_Int, Try.f33, Vial.t, Vial.cs, hv]
  | true =>
    have hv' := Vial.ok_iff.1 hv
    have h1 : inB v.marks 10 200 = true := inB_iff.2 (by omega)
    have h2 : spannedB ⟨v.z0, v.z1⟩ 0 400 = true := by simp [spannedB]; omega
    have h3 : spannedB ⟨v.v0, v.v1⟩ 1 500 = true := by simp [spannedB]; omega
    have h4 : inB v.wr 0 8 = true := inB_iff.2 (by omega)
    have h5 : spannedB ⟨v.l0, v.l1⟩ 1 v.marks = true := by simp [spannedB]; omega
    simp (decide := true) (maxSteps := 4000000) only [go_sem, Nat.reduceAdd, Nat.reduceSub, Nat.reduceMul, Nat.reduceDiv, Nat.reduceMod, Nat.reduceLT, Nat.reduceLeDiff, Nat.reduceEqDiff, Nat.reduceBEq, Nat.reduceBNe, Nat.reduceGT, Int.reduceAdd, Int.reduceSub, Int.reduceMul, Int.reduceNeg, Int.reduceLT, Int.reduceLE, Int.reduceEq, Int.reduceNe, Int.reduceBEq, Int.reduceBNe, Int.reduceToNat, Int.reduceGT, Int.reduceGE, ↓reduceIte, decide_true, decide_false, eq_self, Nat.mul_one, Nat.zero_mul, Nat.one_mul, Int.le_refl, Nat.le_refl, Int.cast_ofNat_Int, Try.f33, Vial.t, Vial.cs, hv, h1, h2, h3, h4, h5]
noncomputable def goSound : List TV → Option TV
  | [.agg [.int .i64 m, .int .i64 a, .int .i64 b, .int .i64 c, .int .i64 d, .int .i64 e, .int .i64 f, .int .i64 g]] => some (.bool (Vial.ok ⟨m, a, b, c, d, e, f, g⟩))
  | _ => none
theorem goSound_ok : ∀ xs r, goSound xs = some r → PCalls Try.prog 33 xs r := by
  intro xs r h
  unfold goSound at h
  split at h
  · cases h; exact oSound_c ⟨_, _, _, _, _, _, _, _⟩
  · cases h
attribute [go_sem] goSound
noncomputable def spS1 : Pm.Spec := spO1.one 33 goSound
@[go_sem] theorem spS1_p (f : FuncId) (xs : List TV) : spS1.p f xs = Pm.Spec.p (spO1.one 33 goSound) f xs := rfl
@[go_sem] theorem spS1_h (f : FuncId) (ps : List PV) (hl : List PO) : spS1.h f ps hl = Pm.Spec.h (spO1.one 33 goSound) f ps hl := rfl
@[go_sem] theorem spS1_fz (f : FuncId) : spS1.fz f = Pm.Spec.fz (spO1.one 33 goSound) f := rfl
@[go_sem] theorem spS1_fr (f : FuncId) : spS1.fr f = Pm.Spec.fr (spO1.one 33 goSound) f := rfl
@[go_sem] theorem spS1_mu (t : TypeId) : spS1.mu t = Pm.Spec.mu (spO1.one 33 goSound) t := rfl
theorem spS1_ok : SpecOk Try.prog spS1 := Spec.one_ok goSound_ok spO1_ok
noncomputable def spS2 : Pm.Spec := { spS1 with mu := fun t => t == 54 }
theorem spS2_ok : SpecOk Try.prog spS2 := ⟨spS1_ok.1, spS1_ok.2⟩
@[go_sem] theorem spS2_p (f : FuncId) (xs : List TV) : spS2.p f xs = spS1.p f xs := rfl
@[go_sem] theorem spS2_h (f : FuncId) (ps : List PV) (hl : List PO) : spS2.h f ps hl = spS1.h f ps hl := rfl
@[go_sem] theorem spS2_fz (f : FuncId) : spS2.fz f = spS1.fz f := rfl
@[go_sem] theorem spS2_fr (f : FuncId) : spS2.fr f = spS1.fr f := rfl
@[go_sem] theorem spS2_mu (t : TypeId) : spS2.mu t = (t == 54) := rfl
attribute [go_sem] popM
theorem LevelEnds_c (v : Vial) {l : List Rd} {s : TV} (hs : IsRow Rd.cs s l) (hl : l.length ≤ 5864062014806) : PCalls Try.prog 9 [v.t, s] (.bool true) := by
  refine pcalls_by Try.mixes spS2_ok (fn := Try.f9) Try.func9 rfl (by kernel_rfl) (by show 2 ≤ _; decide) ?_
  obtain ⟨T, hT⟩ : ∃ T, tiltR v l = T := ⟨_, rfl⟩
  have hte := tilt_e v l
  rw [hT] at hte
  obtain ⟨⟨t0, t1⟩, ⟨z0, z1⟩, te⟩ := T
  simp only [Span.mk.injEq] at hte
  by_cases h0 : te = 0
  · subst h0
    have hk : asked v l = 0 := by
      unfold tiltR at hT
      by_cases h : asked v l = 0
      · exact h
      · rw [if_neg h] at hT; exact congrArg TE.e hT
    obtain ⟨hv, hr⟩ := asked_zero hk
    have hv' := Vial.ok_iff.1 hv
    have h8 := rdsOk_len hr
    obtain ⟨full, rfl⟩ := hs.ne h8.1
    have hcan : ∀ tv z tt, v.v0 ≤ tv → tv ≤ v.v1 → v.z0 ≤ z → z ≤ v.z1 → canP v l tv z tt = (canB v (l.map mid) tv z tt, 0) := fun tv z tt a b c d => by
      unfold canP
      rw [if_pos hk, if_pos ⟨inB_iff.2 ⟨a, b⟩, inB_iff.2 ⟨c, d⟩⟩]
    obtain ⟨hi, e1, e2⟩ : (tilts v (l.map mid)).is = true ∧ (tilts v (l.map mid)).tilt = ⟨t0, t1⟩ ∧ (tilts v (l.map mid)).zero = ⟨z0, z1⟩ := by
      unfold tiltR at hT
      rw [if_pos hk] at hT
      cases hi : (tilts v (l.map mid)).is with
      | false => rw [hi] at hT; have := congrArg TE.e hT; simp at this
      | true => rw [hi] at hT; exact ⟨rfl, congrArg TE.tilt hT, congrArg TE.zero hT⟩
    have tm0 : Int.tmod 0 2 = 0 := rfl
    have tm1 : Int.tmod 1 2 = 1 := rfl
    have tm2 : Int.tmod 2 2 = 0 := rfl
    have tm3 : Int.tmod 3 2 = 1 := rfl
    obtain ⟨q0, q1, q2, q3⟩ := ends_met hv hr hi
    rw [e1] at q0 q1
    rw [e2] at q2 q3
    obtain ⟨_, _, hz0, hz1⟩ := tilts_at hi
    rw [e2] at hz0 hz1
    simp (decide := true) (maxSteps := 4000000) only [go_sem, Nat.reduceAdd, Nat.reduceSub, Nat.reduceMul, Nat.reduceDiv, Nat.reduceMod, Nat.reduceLT, Nat.reduceLeDiff, Nat.reduceEqDiff, Nat.reduceBEq, Nat.reduceBNe, Nat.reduceGT, Int.reduceAdd, Int.reduceSub, Int.reduceMul, Int.reduceNeg, Int.reduceLT, Int.reduceLE, Int.reduceEq, Int.reduceNe, Int.reduceBEq, Int.reduceBNe, Int.reduceToNat, Int.reduceGT, Int.reduceGE, ↓reduceIte, decide_true, decide_false, eq_self, Nat.mul_one, Nat.zero_mul, Nat.one_mul, Int.le_refl, Nat.le_refl, Int.cast_ofNat_Int, Try.f9, Vial.t, Vial.cs, hT, hv, hl, TE.t, Span.t, Span.cs]
    refine pwpC_loopU (A := { j : Nat // j ≤ (v.z1 - v.z0 + 1).toNat }) [1, 2, 5, 6, 8] (fun j => [(9, .t (.int .i64 (v.z0 + (j.1 : Nat))))]) (fun j => [(3, .grow 0 [.t (.bool (metT v (l.map mid) t0 j.1)), .t (.bool (metT v (l.map mid) t1 j.1)), .t (.bool false), .t (.bool false)] 4 1)]) (fun j => (v.z1 - v.z0 + 1).toNat - j.1) ⟨0, by omega⟩ (by decide) (fun _ => by rfl) ?_ fun Q1 hQ1 ⟨j, hj⟩ I1 hI1 => ?_
    · simp (decide := true) (maxSteps := 4000000) only [go_sem, Nat.reduceAdd, Nat.reduceSub, Nat.reduceMul, Nat.reduceDiv, Nat.reduceMod, Nat.reduceLT, Nat.reduceLeDiff, Nat.reduceEqDiff, Nat.reduceBEq, Nat.reduceBNe, Nat.reduceGT, Int.reduceAdd, Int.reduceSub, Int.reduceMul, Int.reduceNeg, Int.reduceLT, Int.reduceLE, Int.reduceEq, Int.reduceNe, Int.reduceBEq, Int.reduceBNe, Int.reduceToNat, Int.reduceGT, Int.reduceGE, ↓reduceIte, decide_true, decide_false, eq_self, Nat.mul_one, Nat.zero_mul, Nat.one_mul, Int.le_refl, Nat.le_refl, Int.cast_ofNat_Int, metT, Int.add_zero]
      exact ⟨rfl, rfl⟩
    · by_cases hlt : v.z0 + (j : Nat) ≤ v.z1
      · have g00 := hcan v.v0 (v.z0 + (j : Nat)) t0 (by omega) (by omega) (by omega) hlt
        have g01 := hcan v.v0 (v.z0 + (j : Nat)) t1 (by omega) (by omega) (by omega) hlt
        have g10 := hcan v.v1 (v.z0 + (j : Nat)) t0 (by omega) (by omega) (by omega) hlt
        have g11 := hcan v.v1 (v.z0 + (j : Nat)) t1 (by omega) (by omega) (by omega) hlt
        have hs0 := metT_succ v (l.map mid) t0 j
        have hs1 := metT_succ v (l.map mid) t1 j
        generalize metT v (l.map mid) t0 j = m0 at hs0 ⊢
        generalize metT v (l.map mid) t1 j = m1 at hs1 ⊢
        generalize canB v (l.map mid) v.v0 (v.z0 + (j : Nat)) t0 = b00 at g00 hs0
        generalize canB v (l.map mid) v.v0 (v.z0 + (j : Nat)) t1 = b01 at g01 hs1
        generalize canB v (l.map mid) v.v1 (v.z0 + (j : Nat)) t0 = b10 at g10 hs0
        generalize canB v (l.map mid) v.v1 (v.z0 + (j : Nat)) t1 = b11 at g11 hs1
        have hc1 : IntKind.i64.wrap (v.z0 + (j : Nat) + 1) = v.z0 + ((j + 1 : Nat) : Int) := by rw [wrap_in (by omega) (by omega)]; omega
        simp (decide := true) (maxSteps := 4000000) only [go_sem, Nat.reduceAdd, Nat.reduceSub, Nat.reduceMul, Nat.reduceDiv, Nat.reduceMod, Nat.reduceLT, Nat.reduceLeDiff, Nat.reduceEqDiff, Nat.reduceBEq, Nat.reduceBNe, Nat.reduceGT, Int.reduceAdd, Int.reduceSub, Int.reduceMul, Int.reduceNeg, Int.reduceLT, Int.reduceLE, Int.reduceEq, Int.reduceNe, Int.reduceBEq, Int.reduceBNe, Int.reduceToNat, Int.reduceGT, Int.reduceGE, ↓reduceIte, decide_true, decide_false, eq_self, Nat.mul_one, Nat.zero_mul, Nat.one_mul, Int.le_refl, Nat.le_refl, Int.cast_ofNat_Int, hlt]
        refine pwpC_loopU (A := { k : Nat // k ≤ 4 }) [1, 2, 5, 6, 8, 9] (fun k => [(10, .t (.int .i64 (k.1 : Nat)))]) (fun k => [(3, .grow 0 [.t (.bool (m0 || (decide (1 ≤ k.1) && b00) || (decide (3 ≤ k.1) && b10))), .t (.bool (m1 || (decide (2 ≤ k.1) && b01) || (decide (4 ≤ k.1) && b11))), .t (.bool false), .t (.bool false)] 4 1)]) (fun k => 4 - k.1) ⟨0, by omega⟩ (by decide) (fun _ => by rfl) ?_ fun Q2 hQ2 ⟨k, hk4⟩ I2 hI2 => ?_
        · simp (decide := true) (maxSteps := 4000000) only [go_sem, Nat.reduceAdd, Nat.reduceSub, Nat.reduceMul, Nat.reduceDiv, Nat.reduceMod, Nat.reduceLT, Nat.reduceLeDiff, Nat.reduceEqDiff, Nat.reduceBEq, Nat.reduceBNe, Nat.reduceGT, Int.reduceAdd, Int.reduceSub, Int.reduceMul, Int.reduceNeg, Int.reduceLT, Int.reduceLE, Int.reduceEq, Int.reduceNe, Int.reduceBEq, Int.reduceBNe, Int.reduceToNat, Int.reduceGT, Int.reduceGE, ↓reduceIte, decide_true, decide_false, eq_self, Nat.mul_one, Nat.zero_mul, Nat.one_mul, Int.le_refl, Nat.le_refl, Int.cast_ofNat_Int]
        · rcases (show k = 0 ∨ k = 1 ∨ k = 2 ∨ k = 3 ∨ k = 4 by omega) with rfl | rfl | rfl | rfl | rfl
          · simp (decide := true) (maxSteps := 4000000) only [go_sem, Nat.reduceAdd, Nat.reduceSub, Nat.reduceMul, Nat.reduceDiv, Nat.reduceMod, Nat.reduceLT, Nat.reduceLeDiff, Nat.reduceEqDiff, Nat.reduceBEq, Nat.reduceBNe, Nat.reduceGT, Int.reduceAdd, Int.reduceSub, Int.reduceMul, Int.reduceNeg, Int.reduceLT, Int.reduceLE, Int.reduceEq, Int.reduceNe, Int.reduceBEq, Int.reduceBNe, Int.reduceToNat, Int.reduceGT, Int.reduceGE, ↓reduceIte, decide_true, decide_false, eq_self, Nat.mul_one, Nat.zero_mul, Nat.one_mul, Int.le_refl, Nat.le_refl, Int.cast_ofNat_Int, g00, g01, g10, g11, hl, tm0, tm1, tm2, tm3]
            refine hI2 _ ⟨1, by omega⟩ (by simp) ?_
            simp (decide := true) (maxSteps := 4000000) only [go_sem, Nat.reduceAdd, Nat.reduceSub, Nat.reduceMul, Nat.reduceDiv, Nat.reduceMod, Nat.reduceLT, Nat.reduceLeDiff, Nat.reduceEqDiff, Nat.reduceBEq, Nat.reduceBNe, Nat.reduceGT, Int.reduceAdd, Int.reduceSub, Int.reduceMul, Int.reduceNeg, Int.reduceLT, Int.reduceLE, Int.reduceEq, Int.reduceNe, Int.reduceBEq, Int.reduceBNe, Int.reduceToNat, Int.reduceGT, Int.reduceGE, ↓reduceIte, decide_true, decide_false, eq_self, Nat.mul_one, Nat.zero_mul, Nat.one_mul, Int.le_refl, Nat.le_refl, Int.cast_ofNat_Int]
            try simp
            cases m0 <;> cases m1 <;> cases b00 <;> cases b01 <;> cases b10 <;> cases b11 <;> rfl
          · simp (decide := true) (maxSteps := 4000000) only [go_sem, Nat.reduceAdd, Nat.reduceSub, Nat.reduceMul, Nat.reduceDiv, Nat.reduceMod, Nat.reduceLT, Nat.reduceLeDiff, Nat.reduceEqDiff, Nat.reduceBEq, Nat.reduceBNe, Nat.reduceGT, Int.reduceAdd, Int.reduceSub, Int.reduceMul, Int.reduceNeg, Int.reduceLT, Int.reduceLE, Int.reduceEq, Int.reduceNe, Int.reduceBEq, Int.reduceBNe, Int.reduceToNat, Int.reduceGT, Int.reduceGE, ↓reduceIte, decide_true, decide_false, eq_self, Nat.mul_one, Nat.zero_mul, Nat.one_mul, Int.le_refl, Nat.le_refl, Int.cast_ofNat_Int, g00, g01, g10, g11, hl, tm0, tm1, tm2, tm3]
            refine hI2 _ ⟨2, by omega⟩ (by simp) ?_
            simp (decide := true) (maxSteps := 4000000) only [go_sem, Nat.reduceAdd, Nat.reduceSub, Nat.reduceMul, Nat.reduceDiv, Nat.reduceMod, Nat.reduceLT, Nat.reduceLeDiff, Nat.reduceEqDiff, Nat.reduceBEq, Nat.reduceBNe, Nat.reduceGT, Int.reduceAdd, Int.reduceSub, Int.reduceMul, Int.reduceNeg, Int.reduceLT, Int.reduceLE, Int.reduceEq, Int.reduceNe, Int.reduceBEq, Int.reduceBNe, Int.reduceToNat, Int.reduceGT, Int.reduceGE, ↓reduceIte, decide_true, decide_false, eq_self, Nat.mul_one, Nat.zero_mul, Nat.one_mul, Int.le_refl, Nat.le_refl, Int.cast_ofNat_Int]
            try simp
            cases m0 <;> cases m1 <;> cases b00 <;> cases b01 <;> cases b10 <;> cases b11 <;> rfl
          · simp (decide := true) (maxSteps := 4000000) only [go_sem, Nat.reduceAdd, Nat.reduceSub, Nat.reduceMul, Nat.reduceDiv, Nat.reduceMod, Nat.reduceLT, Nat.reduceLeDiff, Nat.reduceEqDiff, Nat.reduceBEq, Nat.reduceBNe, Nat.reduceGT, Int.reduceAdd, Int.reduceSub, Int.reduceMul, Int.reduceNeg, Int.reduceLT, Int.reduceLE, Int.reduceEq, Int.reduceNe, Int.reduceBEq, Int.reduceBNe, Int.reduceToNat, Int.reduceGT, Int.reduceGE, ↓reduceIte, decide_true, decide_false, eq_self, Nat.mul_one, Nat.zero_mul, Nat.one_mul, Int.le_refl, Nat.le_refl, Int.cast_ofNat_Int, g00, g01, g10, g11, hl, tm0, tm1, tm2, tm3]
            refine hI2 _ ⟨3, by omega⟩ (by simp) ?_
            simp (decide := true) (maxSteps := 4000000) only [go_sem, Nat.reduceAdd, Nat.reduceSub, Nat.reduceMul, Nat.reduceDiv, Nat.reduceMod, Nat.reduceLT, Nat.reduceLeDiff, Nat.reduceEqDiff, Nat.reduceBEq, Nat.reduceBNe, Nat.reduceGT, Int.reduceAdd, Int.reduceSub, Int.reduceMul, Int.reduceNeg, Int.reduceLT, Int.reduceLE, Int.reduceEq, Int.reduceNe, Int.reduceBEq, Int.reduceBNe, Int.reduceToNat, Int.reduceGT, Int.reduceGE, ↓reduceIte, decide_true, decide_false, eq_self, Nat.mul_one, Nat.zero_mul, Nat.one_mul, Int.le_refl, Nat.le_refl, Int.cast_ofNat_Int]
            try simp
            cases m0 <;> cases m1 <;> cases b00 <;> cases b01 <;> cases b10 <;> cases b11 <;> rfl
          · simp (decide := true) (maxSteps := 4000000) only [go_sem, Nat.reduceAdd, Nat.reduceSub, Nat.reduceMul, Nat.reduceDiv, Nat.reduceMod, Nat.reduceLT, Nat.reduceLeDiff, Nat.reduceEqDiff, Nat.reduceBEq, Nat.reduceBNe, Nat.reduceGT, Int.reduceAdd, Int.reduceSub, Int.reduceMul, Int.reduceNeg, Int.reduceLT, Int.reduceLE, Int.reduceEq, Int.reduceNe, Int.reduceBEq, Int.reduceBNe, Int.reduceToNat, Int.reduceGT, Int.reduceGE, ↓reduceIte, decide_true, decide_false, eq_self, Nat.mul_one, Nat.zero_mul, Nat.one_mul, Int.le_refl, Nat.le_refl, Int.cast_ofNat_Int, g00, g01, g10, g11, hl, tm0, tm1, tm2, tm3]
            refine hI2 _ ⟨4, by omega⟩ (by simp) ?_
            simp (decide := true) (maxSteps := 4000000) only [go_sem, Nat.reduceAdd, Nat.reduceSub, Nat.reduceMul, Nat.reduceDiv, Nat.reduceMod, Nat.reduceLT, Nat.reduceLeDiff, Nat.reduceEqDiff, Nat.reduceBEq, Nat.reduceBNe, Nat.reduceGT, Int.reduceAdd, Int.reduceSub, Int.reduceMul, Int.reduceNeg, Int.reduceLT, Int.reduceLE, Int.reduceEq, Int.reduceNe, Int.reduceBEq, Int.reduceBNe, Int.reduceToNat, Int.reduceGT, Int.reduceGE, ↓reduceIte, decide_true, decide_false, eq_self, Nat.mul_one, Nat.zero_mul, Nat.one_mul, Int.le_refl, Nat.le_refl, Int.cast_ofNat_Int]
            try simp
            cases m0 <;> cases m1 <;> cases b00 <;> cases b01 <;> cases b10 <;> cases b11 <;> rfl
          · simp (decide := true) (maxSteps := 4000000) only [go_sem, Nat.reduceAdd, Nat.reduceSub, Nat.reduceMul, Nat.reduceDiv, Nat.reduceMod, Nat.reduceLT, Nat.reduceLeDiff, Nat.reduceEqDiff, Nat.reduceBEq, Nat.reduceBNe, Nat.reduceGT, Int.reduceAdd, Int.reduceSub, Int.reduceMul, Int.reduceNeg, Int.reduceLT, Int.reduceLE, Int.reduceEq, Int.reduceNe, Int.reduceBEq, Int.reduceBNe, Int.reduceToNat, Int.reduceGT, Int.reduceGE, ↓reduceIte, decide_true, decide_false, eq_self, Nat.mul_one, Nat.zero_mul, Nat.one_mul, Int.le_refl, Nat.le_refl, Int.cast_ofNat_Int]
            refine hQ2 _ _ ?_
            simp (decide := true) (maxSteps := 4000000) only [go_sem, Nat.reduceAdd, Nat.reduceSub, Nat.reduceMul, Nat.reduceDiv, Nat.reduceMod, Nat.reduceLT, Nat.reduceLeDiff, Nat.reduceEqDiff, Nat.reduceBEq, Nat.reduceBNe, Nat.reduceGT, Int.reduceAdd, Int.reduceSub, Int.reduceMul, Int.reduceNeg, Int.reduceLT, Int.reduceLE, Int.reduceEq, Int.reduceNe, Int.reduceBEq, Int.reduceBNe, Int.reduceToNat, Int.reduceGT, Int.reduceGE, ↓reduceIte, decide_true, decide_false, eq_self, Nat.mul_one, Nat.zero_mul, Nat.one_mul, Int.le_refl, Nat.le_refl, Int.cast_ofNat_Int]
            refine hI1 _ ⟨j + 1, by omega⟩ (by simp only; omega) ?_
            simp (decide := true) (maxSteps := 4000000) only [go_sem, Nat.reduceAdd, Nat.reduceSub, Nat.reduceMul, Nat.reduceDiv, Nat.reduceMod, Nat.reduceLT, Nat.reduceLeDiff, Nat.reduceEqDiff, Nat.reduceBEq, Nat.reduceBNe, Nat.reduceGT, Int.reduceAdd, Int.reduceSub, Int.reduceMul, Int.reduceNeg, Int.reduceLT, Int.reduceLE, Int.reduceEq, Int.reduceNe, Int.reduceBEq, Int.reduceBNe, Int.reduceToNat, Int.reduceGT, Int.reduceGE, ↓reduceIte, decide_true, decide_false, eq_self, Nat.mul_one, Nat.zero_mul, Nat.one_mul, Int.le_refl, Nat.le_refl, Int.cast_ofNat_Int, hc1, hs0, hs1, Bool.or_assoc]
      · have hje : j = (v.z1 - v.z0 + 1).toNat := by omega
        subst hje
        simp (decide := true) (maxSteps := 4000000) only [go_sem, Nat.reduceAdd, Nat.reduceSub, Nat.reduceMul, Nat.reduceDiv, Nat.reduceMod, Nat.reduceLT, Nat.reduceLeDiff, Nat.reduceEqDiff, Nat.reduceBEq, Nat.reduceBNe, Nat.reduceGT, Int.reduceAdd, Int.reduceSub, Int.reduceMul, Int.reduceNeg, Int.reduceLT, Int.reduceLE, Int.reduceEq, Int.reduceNe, Int.reduceBEq, Int.reduceBNe, Int.reduceToNat, Int.reduceGT, Int.reduceGE, ↓reduceIte, decide_true, decide_false, eq_self, Nat.mul_one, Nat.zero_mul, Nat.one_mul, Int.le_refl, Nat.le_refl, Int.cast_ofNat_Int, hlt]
        refine hQ1 _ _ ?_
        simp (decide := true) (maxSteps := 4000000) only [go_sem, Nat.reduceAdd, Nat.reduceSub, Nat.reduceMul, Nat.reduceDiv, Nat.reduceMod, Nat.reduceLT, Nat.reduceLeDiff, Nat.reduceEqDiff, Nat.reduceBEq, Nat.reduceBNe, Nat.reduceGT, Int.reduceAdd, Int.reduceSub, Int.reduceMul, Int.reduceNeg, Int.reduceLT, Int.reduceLE, Int.reduceEq, Int.reduceNe, Int.reduceBEq, Int.reduceBNe, Int.reduceToNat, Int.reduceGT, Int.reduceGE, ↓reduceIte, decide_true, decide_false, eq_self, Nat.mul_one, Nat.zero_mul, Nat.one_mul, Int.le_refl, Nat.le_refl, Int.cast_ofNat_Int, q0, q1]
        refine pwpC_loopU (A := { i : Nat // i ≤ 817 }) [1, 2, 5, 6, 8] (fun i => [(15, .t (.int .i64 ((i.1 : Nat) - 408 : Int)))]) (fun i => [(3, .grow 0 [.t (.bool true), .t (.bool true), .t (.bool (metZ v (l.map mid) z0 i.1)), .t (.bool (metZ v (l.map mid) z1 i.1))] 4 1)]) (fun i => 817 - i.1) ⟨0, by omega⟩ (by decide) (fun _ => by rfl) ?_ fun Q3 hQ3 ⟨i, hi8⟩ I3 hI3 => ?_
        · simp (decide := true) (maxSteps := 4000000) only [go_sem, Nat.reduceAdd, Nat.reduceSub, Nat.reduceMul, Nat.reduceDiv, Nat.reduceMod, Nat.reduceLT, Nat.reduceLeDiff, Nat.reduceEqDiff, Nat.reduceBEq, Nat.reduceBNe, Nat.reduceGT, Int.reduceAdd, Int.reduceSub, Int.reduceMul, Int.reduceNeg, Int.reduceLT, Int.reduceLE, Int.reduceEq, Int.reduceNe, Int.reduceBEq, Int.reduceBNe, Int.reduceToNat, Int.reduceGT, Int.reduceGE, ↓reduceIte, decide_true, decide_false, eq_self, Nat.mul_one, Nat.zero_mul, Nat.one_mul, Int.le_refl, Nat.le_refl, Int.cast_ofNat_Int, metZ]
          first | done | exact ⟨rfl, rfl⟩ | skip
        · by_cases hlt3 : ((i : Nat) - 408 : Int) ≤ 408
          · have p1 := mulB (a := ((i : Nat) - 408 : Int)) (b := v.v0) (by omega) (by omega)
            have w1 := wrap_in (n := ((i : Nat) - 408 : Int) * v.v0) (by omega) (by omega)
            have g0 := hcan v.v0 z0 (((i : Nat) - 408 : Int) * v.v0) (by omega) (by omega) hz0.1.1 hz0.1.2
            have g1 := hcan v.v0 z1 (((i : Nat) - 408 : Int) * v.v0) (by omega) (by omega) hz1.1.1 hz1.1.2
            have hs0 := metZ_succ v (l.map mid) z0 i
            have hs1 := metZ_succ v (l.map mid) z1 i
            have hc1 : IntKind.i64.wrap ((i : Nat) - 408 + 1 : Int) = ((i + 1 : Nat) : Int) - 408 := by rw [wrap_in (by omega) (by omega)]; omega
            simp (decide := true) (maxSteps := 4000000) only [go_sem, Nat.reduceAdd, Nat.reduceSub, Nat.reduceMul, Nat.reduceDiv, Nat.reduceMod, Nat.reduceLT, Nat.reduceLeDiff, Nat.reduceEqDiff, Nat.reduceBEq, Nat.reduceBNe, Nat.reduceGT, Int.reduceAdd, Int.reduceSub, Int.reduceMul, Int.reduceNeg, Int.reduceLT, Int.reduceLE, Int.reduceEq, Int.reduceNe, Int.reduceBEq, Int.reduceBNe, Int.reduceToNat, Int.reduceGT, Int.reduceGE, ↓reduceIte, decide_true, decide_false, eq_self, Nat.mul_one, Nat.zero_mul, Nat.one_mul, Int.le_refl, Nat.le_refl, Int.cast_ofNat_Int, hlt3, w1, g0, g1, hl]
            refine hI3 _ ⟨i + 1, by omega⟩ (by simp only; omega) ?_
            simp (decide := true) (maxSteps := 4000000) only [go_sem, Nat.reduceAdd, Nat.reduceSub, Nat.reduceMul, Nat.reduceDiv, Nat.reduceMod, Nat.reduceLT, Nat.reduceLeDiff, Nat.reduceEqDiff, Nat.reduceBEq, Nat.reduceBNe, Nat.reduceGT, Int.reduceAdd, Int.reduceSub, Int.reduceMul, Int.reduceNeg, Int.reduceLT, Int.reduceLE, Int.reduceEq, Int.reduceNe, Int.reduceBEq, Int.reduceBNe, Int.reduceToNat, Int.reduceGT, Int.reduceGE, ↓reduceIte, decide_true, decide_false, eq_self, Nat.mul_one, Nat.zero_mul, Nat.one_mul, Int.le_refl, Nat.le_refl, Int.cast_ofNat_Int, hc1, hs0, hs1, orNot]
          · have hie : i = 817 := by omega
            subst hie
            simp (decide := true) (maxSteps := 4000000) only [go_sem, Nat.reduceAdd, Nat.reduceSub, Nat.reduceMul, Nat.reduceDiv, Nat.reduceMod, Nat.reduceLT, Nat.reduceLeDiff, Nat.reduceEqDiff, Nat.reduceBEq, Nat.reduceBNe, Nat.reduceGT, Int.reduceAdd, Int.reduceSub, Int.reduceMul, Int.reduceNeg, Int.reduceLT, Int.reduceLE, Int.reduceEq, Int.reduceNe, Int.reduceBEq, Int.reduceBNe, Int.reduceToNat, Int.reduceGT, Int.reduceGE, ↓reduceIte, decide_true, decide_false, eq_self, Nat.mul_one, Nat.zero_mul, Nat.one_mul, Int.le_refl, Nat.le_refl, Int.cast_ofNat_Int, hlt3]
            refine hQ3 _ _ ?_
            simp (decide := true) (maxSteps := 4000000) only [go_sem, Nat.reduceAdd, Nat.reduceSub, Nat.reduceMul, Nat.reduceDiv, Nat.reduceMod, Nat.reduceLT, Nat.reduceLeDiff, Nat.reduceEqDiff, Nat.reduceBEq, Nat.reduceBNe, Nat.reduceGT, Int.reduceAdd, Int.reduceSub, Int.reduceMul, Int.reduceNeg, Int.reduceLT, Int.reduceLE, Int.reduceEq, Int.reduceNe, Int.reduceBEq, Int.reduceBNe, Int.reduceToNat, Int.reduceGT, Int.reduceGE, ↓reduceIte, decide_true, decide_false, eq_self, Nat.mul_one, Nat.zero_mul, Nat.one_mul, Int.le_refl, Nat.le_refl, Int.cast_ofNat_Int, q2, q3]
  · have h0' : (te != 0) = true := by simpa using h0
    obtain ⟨⟨rfl, rfl⟩, rfl, rfl⟩ := hte.resolve_left h0
    rcases hs with ⟨rfl, rfl⟩ | ⟨full, rfl⟩ <;> simp (decide := true) (maxSteps := 4000000) only [go_sem, Nat.reduceAdd, Nat.reduceSub, Nat.reduceMul, Nat.reduceDiv, Nat.reduceMod, Nat.reduceLT, Nat.reduceLeDiff, Nat.reduceEqDiff, Nat.reduceBEq, Nat.reduceBNe, Nat.reduceGT, Int.reduceAdd, Int.reduceSub, Int.reduceMul, Int.reduceNeg, Int.reduceLT, Int.reduceLE, Int.reduceEq, Int.reduceNe, Int.reduceBEq, Int.reduceBNe, Int.reduceToNat, Int.reduceGT, Int.reduceGE, ↓reduceIte, decide_true, decide_false, eq_self, Nat.mul_one, Nat.zero_mul, Nat.one_mul, Int.le_refl, Nat.le_refl, Int.cast_ofNat_Int, Try.f9, Vial.t, Vial.cs, unRds, hT, hl, h0', TE.t, Span.t, Span.cs, List.length_nil, beq_self_eq_true]
end Go.Proofs.Ytgofljmnlfnlnaa

/- Part Mo. -/
namespace Go.Oc
open Go Go.Pm Go.Proofs.Ytgofljmnlfnlnaa
/-- The readings at places. -/
def selR (l : List Rd) (S : List Nat) : List Rd := S.filterMap (l[·]?)
theorem selR_mid (l : List Rd) (S : List Nat) : (selR l S).map mid = selN (l.map mid) S := by
  unfold selR selN
  rw [List.map_filterMap]
  congr 1
  funext i
  rw [List.getElem?_map]
theorem selR_len {l : List Rd} : ∀ {S : List Nat}, (∀ x ∈ S, x < l.length) → (selR l S).length = S.length
  | [], _ => rfl
  | x :: S, h => by
    have hx := h x (by simp)
    unfold selR
    rw [List.filterMap_cons, List.getElem?_eq_getElem hx]
    simp only [List.length_cons]
    exact congrArg (· + 1) (selR_len (l := l) (S := S) fun y hy => h y (List.mem_cons_of_mem _ hy))
theorem selR_snoc {l : List Rd} {S : List Nat} {k : Nat} {x : Rd} (hx : l[k]? = some x) : selR l (S ++ [k]) = selR l S ++ [x] := by
  unfold selR; rw [List.filterMap_append]; simp [hx]
end Go.Oc
namespace Go.Proofs.Ytgofljmnlfnlnaa
open Go.RowKit Go.Pm Go.Oc
set_option maxRecDepth 100000
set_option linter.unusedVariables false
set_option maxHeartbeats 4000000

theorem oChosen_c (l : List Rd) (full : Bool) (hl : l.length ≤ 8) (S : List Nat) (fs : Bool) (hS : ∀ x ∈ S, x < l.length) (hn : S.length ≤ 62) : PCalls Try.prog 36 [.sl (l.flatMap Rd.cs) l.length full, .sl (ints (nI S)) S.length fs] (.tup [if S.length = 0 then .nilSl else .sl ((selR l S).flatMap Rd.cs) S.length false, .bool true]) := by
  refine pcalls_by Try.mixes spB3_ok (fn := Try.f36) Try.func36 rfl (by kernel_rfl) (by show 2 ≤ _; decide) ?_
  simp (decide := true) (maxSteps := 4000000) only [go_sem, Nat.reduceAdd, Nat.reduceSub, Nat.reduceMul, Nat.reduceDiv, Nat.reduceMod, Nat.reduceLT, Nat.reduceLeDiff, Nat.reduceEqDiff, Nat.reduceBEq, Nat.reduceBNe, Nat.reduceGT, Int.reduceAdd, Int.reduceSub, Int.reduceMul, Int.reduceNeg, Int.reduceLT, Int.reduceLE, Int.reduceEq, Int.reduceNe, Int.reduceBEq, Int.reduceBNe, Int.reduceToNat, Int.reduceGT, Int.reduceGE, ↓reduceIte, decide_true, decide_false, eq_self, Nat.mul_one, Nat.zero_mul, Nat.one_mul, Int.le_refl, Nat.le_refl, Int.cast_ofNat_Int, Try.f36]
  refine pwpC_loopU (A := { k : Nat // k ≤ S.length }) [0, 1] (fun k => [(7, .t (.int .i64 k.1)), (6, .own ((selR l (S.take k.1)).flatMap Rd.cs) k.1 0)]) (fun k => [(0, .tok k.1 57)]) (fun k => S.length - k.1) ⟨0, by omega⟩ (by decide) (fun _ => by rfl) ?_ fun Q1 hQ1 ⟨k, hk⟩ I1 hI1 => ?_
  · simp (decide := true) (maxSteps := 4000000) only [go_sem, Nat.reduceAdd, Nat.reduceSub, Nat.reduceMul, Nat.reduceDiv, Nat.reduceMod, Nat.reduceLT, Nat.reduceLeDiff, Nat.reduceEqDiff, Nat.reduceBEq, Nat.reduceBNe, Nat.reduceGT, Int.reduceAdd, Int.reduceSub, Int.reduceMul, Int.reduceNeg, Int.reduceLT, Int.reduceLE, Int.reduceEq, Int.reduceNe, Int.reduceBEq, Int.reduceBNe, Int.reduceToNat, Int.reduceGT, Int.reduceGE, ↓reduceIte, decide_true, decide_false, eq_self, Nat.mul_one, Nat.zero_mul, Nat.one_mul, Int.le_refl, Nat.le_refl, Int.cast_ofNat_Int, List.take_zero]
    first | done | exact ⟨rfl, rfl⟩ | rfl
  · by_cases hlt : (k : Int) < S.length
    · obtain ⟨i, hi⟩ := get_lt hlt
      have hil := hS i (List.mem_of_getElem? hi)
      have hii : (i : Int) < l.length := by omega
      obtain ⟨x, hx⟩ := get_lt hii
      have hd := flat_at Rd.cs (n := 3) (fun _ => rfl) hx
      have hin : (nI S)[k]? = some (i : Int) := by unfold nI; rw [List.getElem?_map, hi]; rfl
      have hdi := ints_at hin
      rw [Nat.mul_one] at hdi
      have hc1 : IntKind.i64.wrap (k + 1) = ((k + 1 : Nat) : Int) := by rw [wrap_in (by omega) (by omega)]; omega
      have w1 : IntKind.i64.wrap ((l.length : Int) - 1) = (l.length : Int) - 1 := wrap_in (by omega) (by omega)
      have hb : inB (i : Int) 0 ((l.length : Int) - 1) = true := inB_iff.2 (by omega)
      have hsl : (selR l (S.take k)).length = k := by rw [selR_len fun y hy => hS y (List.mem_of_mem_take hy), List.length_take]; omega
      have hc : (List.flatMap Rd.cs (selR l (S.take k))).length = k * 3 := by rw [flat_len Rd.cs (n := 3) (fun _ => rfl), hsl]
      have hr : (k + 1) * 24 ≤ 140737488355328 := by omega
      have htk : selR l (S.take (k + 1)) = selR l (S.take k) ++ [x] := by rw [take_snoc hi, selR_snoc hx]
      simp (decide := true) (maxSteps := 4000000) only [go_sem, Nat.reduceAdd, Nat.reduceSub, Nat.reduceMul, Nat.reduceDiv, Nat.reduceMod, Nat.reduceLT, Nat.reduceLeDiff, Nat.reduceEqDiff, Nat.reduceBEq, Nat.reduceBNe, Nat.reduceGT, Int.reduceAdd, Int.reduceSub, Int.reduceMul, Int.reduceNeg, Int.reduceLT, Int.reduceLE, Int.reduceEq, Int.reduceNe, Int.reduceBEq, Int.reduceBNe, Int.reduceToNat, Int.reduceGT, Int.reduceGE, ↓reduceIte, decide_true, decide_false, eq_self, Nat.mul_one, Nat.zero_mul, Nat.one_mul, Int.le_refl, Nat.le_refl, Int.cast_ofNat_Int, hlt, hdi, w1, hb, hii, hd, Rd.cs, hc, hr]
      refine hI1 _ ⟨k + 1, by omega⟩ (by simp only; omega) ?_
      simp (decide := true) (maxSteps := 4000000) only [go_sem, Nat.reduceAdd, Nat.reduceSub, Nat.reduceMul, Nat.reduceDiv, Nat.reduceMod, Nat.reduceLT, Nat.reduceLeDiff, Nat.reduceEqDiff, Nat.reduceBEq, Nat.reduceBNe, Nat.reduceGT, Int.reduceAdd, Int.reduceSub, Int.reduceMul, Int.reduceNeg, Int.reduceLT, Int.reduceLE, Int.reduceEq, Int.reduceNe, Int.reduceBEq, Int.reduceBNe, Int.reduceToNat, Int.reduceGT, Int.reduceGE, ↓reduceIte, decide_true, decide_false, eq_self, Nat.mul_one, Nat.zero_mul, Nat.one_mul, Int.le_refl, Nat.le_refl, Int.cast_ofNat_Int, hc1, htk, List.flatMap_append, Rd.cs]
    · have hke : k = S.length := by omega
      subst hke
      simp (decide := true) (maxSteps := 4000000) only [go_sem, Nat.reduceAdd, Nat.reduceSub, Nat.reduceMul, Nat.reduceDiv, Nat.reduceMod, Nat.reduceLT, Nat.reduceLeDiff, Nat.reduceEqDiff, Nat.reduceBEq, Nat.reduceBNe, Nat.reduceGT, Int.reduceAdd, Int.reduceSub, Int.reduceMul, Int.reduceNeg, Int.reduceLT, Int.reduceLE, Int.reduceEq, Int.reduceNe, Int.reduceBEq, Int.reduceBNe, Int.reduceToNat, Int.reduceGT, Int.reduceGE, ↓reduceIte, decide_true, decide_false, eq_self, Nat.mul_one, Nat.zero_mul, Nat.one_mul, Int.le_refl, Nat.le_refl, Int.cast_ofNat_Int, hlt]
      refine hQ1 _ _ ?_
      simp (decide := true) (maxSteps := 4000000) only [go_sem, Nat.reduceAdd, Nat.reduceSub, Nat.reduceMul, Nat.reduceDiv, Nat.reduceMod, Nat.reduceLT, Nat.reduceLeDiff, Nat.reduceEqDiff, Nat.reduceBEq, Nat.reduceBNe, Nat.reduceGT, Int.reduceAdd, Int.reduceSub, Int.reduceMul, Int.reduceNeg, Int.reduceLT, Int.reduceLE, Int.reduceEq, Int.reduceNe, Int.reduceBEq, Int.reduceBNe, Int.reduceToNat, Int.reduceGT, Int.reduceGE, ↓reduceIte, decide_true, decide_false, eq_self, Nat.mul_one, Nat.zero_mul, Nat.one_mul, Int.le_refl, Nat.le_refl, Int.cast_ofNat_Int, List.take_length]
theorem Rising_c (S : List Nat) (fs : Bool) (n : Nat) (hS : rowN n S) (hn : n ≤ 62) : PCalls Try.prog 35 [.sl (ints (nI S)) S.length fs, .int .i64 n] (.bool true) := by
  have hS' := rowN_iff.1 hS
  have hlen := rowN_len hS
  refine pcalls_by Try.mixes spB3_ok (fn := Try.f35) Try.func35 rfl (by kernel_rfl) (by show 2 ≤ _; decide) ?_
  simp (decide := true) (maxSteps := 4000000) only [go_sem, Nat.reduceAdd, Nat.reduceSub, Nat.reduceMul, Nat.reduceDiv, Nat.reduceMod, Nat.reduceLT, Nat.reduceLeDiff, Nat.reduceEqDiff, Nat.reduceBEq, Nat.reduceBNe, Nat.reduceGT, Int.reduceAdd, Int.reduceSub, Int.reduceMul, Int.reduceNeg, Int.reduceLT, Int.reduceLE, Int.reduceEq, Int.reduceNe, Int.reduceBEq, Int.reduceBNe, Int.reduceToNat, Int.reduceGT, Int.reduceGE, ↓reduceIte, decide_true, decide_false, eq_self, Nat.mul_one, Nat.zero_mul, Nat.one_mul, Int.le_refl, Nat.le_refl, Int.cast_ofNat_Int, Try.f35]
  refine pwpC_loopU (A := { k : Nat // k ≤ S.length }) [0, 1] (fun k => [(5, .t (.int .i64 k.1))]) (fun k => []) (fun k => S.length - k.1) ⟨0, by omega⟩ (by decide) (fun _ => by rfl) ?_ fun Q1 hQ1 ⟨k, hk⟩ I1 hI1 => ?_
  · simp (decide := true) (maxSteps := 4000000) only [go_sem, Nat.reduceAdd, Nat.reduceSub, Nat.reduceMul, Nat.reduceDiv, Nat.reduceMod, Nat.reduceLT, Nat.reduceLeDiff, Nat.reduceEqDiff, Nat.reduceBEq, Nat.reduceBNe, Nat.reduceGT, Int.reduceAdd, Int.reduceSub, Int.reduceMul, Int.reduceNeg, Int.reduceLT, Int.reduceLE, Int.reduceEq, Int.reduceNe, Int.reduceBEq, Int.reduceBNe, Int.reduceToNat, Int.reduceGT, Int.reduceGE, ↓reduceIte, decide_true, decide_false, eq_self, Nat.mul_one, Nat.zero_mul, Nat.one_mul, Int.le_refl, Nat.le_refl, Int.cast_ofNat_Int]
  · by_cases hlt : (k : Int) < S.length
    · obtain ⟨i, hi⟩ := get_lt hlt
      have hil := hS'.2 i (List.mem_of_getElem? hi)
      have hin : (nI S)[k]? = some (i : Int) := by unfold nI; rw [List.getElem?_map, hi]; rfl
      have hdi := ints_at hin
      rw [Nat.mul_one] at hdi
      have hc1 : IntKind.i64.wrap (k + 1) = ((k + 1 : Nat) : Int) := by rw [wrap_in (by omega) (by omega)]; omega
      have w1 : IntKind.i64.wrap ((n : Int) - 1) = (n : Int) - 1 := wrap_in (by omega) (by omega)
      have hb : inB (i : Int) 0 ((n : Int) - 1) = true := inB_iff.2 (by omega)
      rcases Nat.eq_zero_or_pos k with h0 | h0
      · subst h0
        have hlt0 : (0 : Int) < S.length := by omega
        rw [List.drop_zero] at hdi
        simp (decide := true) (maxSteps := 4000000) only [go_sem, Nat.reduceAdd, Nat.reduceSub, Nat.reduceMul, Nat.reduceDiv, Nat.reduceMod, Nat.reduceLT, Nat.reduceLeDiff, Nat.reduceEqDiff, Nat.reduceBEq, Nat.reduceBNe, Nat.reduceGT, Int.reduceAdd, Int.reduceSub, Int.reduceMul, Int.reduceNeg, Int.reduceLT, Int.reduceLE, Int.reduceEq, Int.reduceNe, Int.reduceBEq, Int.reduceBNe, Int.reduceToNat, Int.reduceGT, Int.reduceGE, ↓reduceIte, decide_true, decide_false, eq_self, Nat.mul_one, Nat.zero_mul, Nat.one_mul, Int.le_refl, Nat.le_refl, Int.cast_ofNat_Int, hlt0, hdi, w1, hb]
        refine hI1 _ ⟨0 + 1, by omega⟩ (by simp only; omega) ?_
        simp (decide := true) (maxSteps := 4000000) only [go_sem, Nat.reduceAdd, Nat.reduceSub, Nat.reduceMul, Nat.reduceDiv, Nat.reduceMod, Nat.reduceLT, Nat.reduceLeDiff, Nat.reduceEqDiff, Nat.reduceBEq, Nat.reduceBNe, Nat.reduceGT, Int.reduceAdd, Int.reduceSub, Int.reduceMul, Int.reduceNeg, Int.reduceLT, Int.reduceLE, Int.reduceEq, Int.reduceNe, Int.reduceBEq, Int.reduceBNe, Int.reduceToNat, Int.reduceGT, Int.reduceGE, ↓reduceIte, decide_true, decide_false, eq_self, Nat.mul_one, Nat.zero_mul, Nat.one_mul, Int.le_refl, Nat.le_refl, Int.cast_ofNat_Int, hdi]
      · obtain ⟨j, hj⟩ := get_lt (l := S) (k := k - 1) (by omega)
        have hjn : (nI S)[k - 1]? = some (j : Int) := by unfold nI; rw [List.getElem?_map, hj]; rfl
        have hdj := ints_at hjn
        rw [Nat.mul_one] at hdj
        have hji : j < i := by
          have e1 := List.getElem?_eq_some_iff.1 hj
          have e2 := List.getElem?_eq_some_iff.1 hi
          obtain ⟨a1, b1⟩ := e1
          obtain ⟨a2, b2⟩ := e2
          have := List.pairwise_iff_getElem.1 hS'.1 (k - 1) k a1 a2 (by omega)
          omega
        have hji' : ¬ (i : Int) ≤ j := by omega
        have hk0 : (k : Int) > 0 := by omega
        have w2 : IntKind.i64.wrap ((k : Int) - 1) = ((k - 1 : Nat) : Int) := by rw [wrap_in (by omega) (by omega)]; omega
        have hlt2 : ((k - 1 : Nat) : Int) < S.length := by omega
        simp (decide := true) (maxSteps := 4000000) only [go_sem, Nat.reduceAdd, Nat.reduceSub, Nat.reduceMul, Nat.reduceDiv, Nat.reduceMod, Nat.reduceLT, Nat.reduceLeDiff, Nat.reduceEqDiff, Nat.reduceBEq, Nat.reduceBNe, Nat.reduceGT, Int.reduceAdd, Int.reduceSub, Int.reduceMul, Int.reduceNeg, Int.reduceLT, Int.reduceLE, Int.reduceEq, Int.reduceNe, Int.reduceBEq, Int.reduceBNe, Int.reduceToNat, Int.reduceGT, Int.reduceGE, ↓reduceIte, decide_true, decide_false, eq_self, Nat.mul_one, Nat.zero_mul, Nat.one_mul, Int.le_refl, Nat.le_refl, Int.cast_ofNat_Int, hlt, hdi, w1, hb, hk0, w2, hlt2, hdj, hji']
        refine hI1 _ ⟨k + 1, by omega⟩ (by simp only; omega) ?_
        simp (decide := true) (maxSteps := 4000000) only [go_sem, Nat.reduceAdd, Nat.reduceSub, Nat.reduceMul, Nat.reduceDiv, Nat.reduceMod, Nat.reduceLT, Nat.reduceLeDiff, Nat.reduceEqDiff, Nat.reduceBEq, Nat.reduceBNe, Nat.reduceGT, Int.reduceAdd, Int.reduceSub, Int.reduceMul, Int.reduceNeg, Int.reduceLT, Int.reduceLE, Int.reduceEq, Int.reduceNe, Int.reduceBEq, Int.reduceBNe, Int.reduceToNat, Int.reduceGT, Int.reduceGE, ↓reduceIte, decide_true, decide_false, eq_self, Nat.mul_one, Nat.zero_mul, Nat.one_mul, Int.le_refl, Nat.le_refl, Int.cast_ofNat_Int, hc1]
    · simp (decide := true) (maxSteps := 4000000) only [go_sem, Nat.reduceAdd, Nat.reduceSub, Nat.reduceMul, Nat.reduceDiv, Nat.reduceMod, Nat.reduceLT, Nat.reduceLeDiff, Nat.reduceEqDiff, Nat.reduceBEq, Nat.reduceBNe, Nat.reduceGT, Int.reduceAdd, Int.reduceSub, Int.reduceMul, Int.reduceNeg, Int.reduceLT, Int.reduceLE, Int.reduceEq, Int.reduceNe, Int.reduceBEq, Int.reduceBNe, Int.reduceToNat, Int.reduceGT, Int.reduceGE, ↓reduceIte, decide_true, decide_false, eq_self, Nat.mul_one, Nat.zero_mul, Nat.one_mul, Int.le_refl, Nat.le_refl, Int.cast_ofNat_Int, hlt]
      refine hQ1 _ _ ?_
      simp (decide := true) (maxSteps := 4000000) only [go_sem, Nat.reduceAdd, Nat.reduceSub, Nat.reduceMul, Nat.reduceDiv, Nat.reduceMod, Nat.reduceLT, Nat.reduceLeDiff, Nat.reduceEqDiff, Nat.reduceBEq, Nat.reduceBNe, Nat.reduceGT, Int.reduceAdd, Int.reduceSub, Int.reduceMul, Int.reduceNeg, Int.reduceLT, Int.reduceLE, Int.reduceEq, Int.reduceNe, Int.reduceBEq, Int.reduceBNe, Int.reduceToNat, Int.reduceGT, Int.reduceGE, ↓reduceIte, decide_true, decide_false, eq_self, Nat.mul_one, Nat.zero_mul, Nat.one_mul, Int.le_refl, Nat.le_refl, Int.cast_ofNat_Int]
end Go.Proofs.Ytgofljmnlfnlnaa

/- Part Mq. -/
namespace Go.Oc
open Go Go.Pm Go.Proofs.Ytgofljmnlfnlnaa
theorem rdsOk_selR {v : Vial} {l : List Rd} (h : rdsOk v l = true) {S : List Nat} (hS : rowN l.length S) (hne : S ≠ []) : rdsOk v (selR l S) = true := by
  have h8 := rdsOk_len h
  have hlen := rowN_len hS
  have hl := selR_len (rowN_iff.1 hS).2
  have hpos : 0 < S.length := List.length_pos_iff.2 hne
  simp only [rdsOk, Bool.and_eq_true, List.all_eq_true] at h ⊢
  refine ⟨inB_iff.2 (by omega), fun x hx => h.2 x ?_⟩
  obtain ⟨i, _, hi⟩ := List.mem_filterMap.1 hx
  exact List.mem_of_getElem? hi
/-- What Tilt hands back, of readings at places. -/
theorem tilt_selR {v : Vial} {l : List Rd} (hk : asked v l = 0) {S : List Nat} (hS : rowN l.length S) (hne : S ≠ []) : (tiltR v (selR l S)).e = if (tilts v (selN (l.map mid) S)).is then 0 else 33 := by
  obtain ⟨hv, hr⟩ := asked_zero hk
  have hr' := rdsOk_selR hr hS hne
  have hk' : asked v (selR l S) = 0 := by unfold asked; simp [hv, hr']
  unfold tiltR
  rw [if_pos hk', selR_mid]
  split <;> rfl
/-- Without one of its places the least row is not false. -/
theorem least_less {v : Vial} {L : List Mk} {n i : Nat} {S : List Nat} (h : Least v L n S) (hi : i < S.length) (h2 : 1 < S.length) : rowN n (S.eraseIdx i) ∧ S.eraseIdx i ≠ [] ∧ ¬ badN v L (S.eraseIdx i) := by
  have hs := List.eraseIdx_sublist S i
  have hr := rowN_iff.1 h.row
  have hl := List.length_eraseIdx_of_lt hi
  have hrow : rowN n (S.eraseIdx i) := rowN_iff.2 ⟨hr.1.sublist hs, fun x hx => hr.2 x (hs.subset hx)⟩
  have hne : S.eraseIdx i ≠ [] := fun h0 => by rw [h0] at hl; simp at hl; omega
  exact ⟨hrow, hne, fun hb => h.min _ hrow hne hb (.inl (by rw [nI_len, nI_len, hl]; omega))⟩
end Go.Oc

/- Part Mr. -/
namespace Go.Oc
open Go Go.Pm Go.Proofs.Ytgofljmnlfnlnaa
/-- Numbers as places. -/
def toN (a : List Int) : List Nat := a.map Int.toNat
theorem toN_nI (S : List Nat) : toN (nI S) = S := by
  unfold toN nI
  rw [List.map_map]
  exact List.map_id S
noncomputable def rowB (n : Nat) (S : List Nat) : Bool := @decide (rowN n S) (Classical.propDecidable _)
theorem rowB_t {n : Nat} {S : List Nat} (h : rowN n S) : rowB n S = true := by unfold rowB; exact @decide_eq_true _ (Classical.propDecidable _) h
theorem rowB_of {n : Nat} {S : List Nat} (h : rowB n S = true) : rowN n S := by unfold rowB at h; exact @of_decide_eq_true _ (Classical.propDecidable _) h
theorem nI_erase {S : List Nat} {k : Nat} : ints (nI (S.eraseIdx k)) = (ints (nI S)).take k ++ (ints (nI S)).drop (k + 1) := by
  unfold ints nI
  rw [List.eraseIdx_eq_take_drop_succ]
  simp only [List.map_append, List.map_take, List.map_drop]
end Go.Oc
namespace Go.Proofs.Ytgofljmnlfnlnaa
open Go.RowKit Go.Pm Go.Oc
set_option maxRecDepth 100000
set_option linter.unusedVariables false
set_option maxHeartbeats 4000000

noncomputable def goChosen : List TV → Option TV
  | [.sl cs n f, .sl cs' n' f'] => match unRds cs, unI cs' with
    | some l, some a => if n = l.length ∧ n' = a.length ∧ l.length ≤ 8 ∧ nI (toN a) = a ∧ rowB l.length (toN a) = true then some (.tup [if (toN a).length = 0 then .nilSl else .sl ((selR l (toN a)).flatMap Rd.cs) (toN a).length false, .bool true]) else none
    | _, _ => none
  | _ => none
theorem goChosen_ok : ∀ xs r, goChosen xs = some r → PCalls Try.prog 36 xs r := by
  intro xs r h
  unfold goChosen at h
  split at h
  · rename_i cs n f1 cs2 n2 f2
    split at h
    · rename_i l a hl ha
      split at h
      · rename_i hc; cases h
        have e1 := unRds_some hl
        have e2 := unI_some ha
        rw [ic_ints] at e2
        obtain ⟨rfl, rfl, h1, h2, h3⟩ := hc
        have h3 := rowB_of h3
        have := oChosen_c l f1 h1 (toN a) f2 (rowN_iff.1 h3).2 (by have := rowN_len h3; omega)
        rw [h2, show (toN a).length = a.length from List.length_map _] at this
        rw [e1, e2, show (toN a).length = a.length from List.length_map _]
        exact this
      · cases h
    · cases h
  · cases h
attribute [go_sem] goChosen
noncomputable def gRising : List TV → Option TV
  | [.sl cs n f, .int .i64 b] => match unI cs with
    | some a => if n = a.length ∧ 0 ≤ b ∧ b ≤ 62 ∧ nI (toN a) = a ∧ rowB b.toNat (toN a) = true then some (.bool true) else none
    | none => none
  | _ => none
theorem gRising_ok : ∀ xs r, gRising xs = some r → PCalls Try.prog 35 xs r := by
  intro xs r h
  unfold gRising at h
  split at h
  · split at h
    · rename_i a ha
      split at h
      · rename_i hc; cases h
        have e2 := unI_some ha
        rw [ic_ints] at e2
        obtain ⟨rfl, h1, h2, h3, h4⟩ := hc
        have := Rising_c (toN a) (by assumption) _ (rowB_of h4) (by omega)
        rw [h3, show (toN a).length = a.length from List.length_map _, Int.toNat_of_nonneg h1] at this
        rw [e2]
        exact this
      · cases h
    · cases h
  · cases h
attribute [go_sem] gRising
noncomputable def spQ1 : Pm.Spec := (((spK1.one 35 gRising).one 36 goChosen).one 37 gMembers).one 38 gBefore
@[go_sem] theorem spQ1_p (f : FuncId) (xs : List TV) : spQ1.p f xs = Pm.Spec.p ((((spK1.one 35 gRising).one 36 goChosen).one 37 gMembers).one 38 gBefore) f xs := rfl
@[go_sem] theorem spQ1_h (f : FuncId) (ps : List PV) (hl : List PO) : spQ1.h f ps hl = Pm.Spec.h ((((spK1.one 35 gRising).one 36 goChosen).one 37 gMembers).one 38 gBefore) f ps hl := rfl
@[go_sem] theorem spQ1_fz (f : FuncId) : spQ1.fz f = Pm.Spec.fz ((((spK1.one 35 gRising).one 36 goChosen).one 37 gMembers).one 38 gBefore) f := rfl
@[go_sem] theorem spQ1_fr (f : FuncId) : spQ1.fr f = Pm.Spec.fr ((((spK1.one 35 gRising).one 36 goChosen).one 37 gMembers).one 38 gBefore) f := rfl
@[go_sem] theorem spQ1_mu (t : TypeId) : spQ1.mu t = Pm.Spec.mu ((((spK1.one 35 gRising).one 36 goChosen).one 37 gMembers).one 38 gBefore) t := rfl
theorem spQ1_ok : SpecOk Try.prog spQ1 := Spec.one_ok gBefore_ok (Spec.one_ok gMembers_ok (Spec.one_ok goChosen_ok (Spec.one_ok gRising_ok spK1_ok)))
theorem LevelAccused_c (v : Vial) {l : List Rd} {s : TV} (hs : IsRow Rd.cs s l) (hl : l.length ≤ 5864062014806) (set : Int) : PCalls Try.prog 11 [v.t, s, .int .i64 set] (.bool true) := by
  refine pcalls_by Try.mixes spQ1_ok (fn := Try.f11) Try.func11 rfl (by kernel_rfl) (by show 3 ≤ _; decide) ?_
  obtain ⟨T, hT⟩ : ∃ T, tiltR v l = T := ⟨_, rfl⟩
  by_cases hk : asked v l = 0
  · have hk' := hk
    obtain ⟨hv, hr⟩ := asked_zero hk
    have h8 := rdsOk_len hr
    obtain ⟨full, rfl⟩ := hs.ne h8.1
    have hb8 : ¬ (l.length : Int) > 8 := by omega
    rcases false_law hk with ⟨hi, hf⟩ | ⟨hi, S, hS, hf⟩
    · have hte : T.e = 0 := by rw [← hT]; unfold tiltR; rw [if_pos hk, hi]; rfl
      obtain ⟨t, z, te⟩ := T
      subst hte
      simp (decide := true) (maxSteps := 4000000) only [go_sem, Nat.reduceAdd, Nat.reduceSub, Nat.reduceMul, Nat.reduceDiv, Nat.reduceMod, Nat.reduceLT, Nat.reduceLeDiff, Nat.reduceEqDiff, Nat.reduceBEq, Nat.reduceBNe, Nat.reduceGT, Int.reduceAdd, Int.reduceSub, Int.reduceMul, Int.reduceNeg, Int.reduceLT, Int.reduceLE, Int.reduceEq, Int.reduceNe, Int.reduceBEq, Int.reduceBNe, Int.reduceToNat, Int.reduceGT, Int.reduceGE, ↓reduceIte, decide_true, decide_false, eq_self, Nat.mul_one, Nat.zero_mul, Nat.one_mul, Int.le_refl, Nat.le_refl, Int.cast_ofNat_Int, Try.f11, Vial.t, Vial.cs, unRds_eq, hT, hl, hf, TE.t, Span.t, Span.cs, hb8]
    · have hte : T.e = 33 := by rw [← hT]; unfold tiltR; rw [if_pos hk, hi]; rfl
      obtain ⟨t, z, te⟩ := T
      subst hte
      have hsl := rowN_len hS.row
      have hpos : 0 < S.length := List.length_pos_iff.2 hS.ne
      have hrow := rowB_t hS.row
      have hSS := tilt_selR hk hS.row hS.ne
      have hSb : (tilts v (selN (l.map mid) S)).is = false := hS.bad
      rw [hSb] at hSS
      obtain ⟨T1, hT1⟩ : ∃ T1, tiltR v (selR l S) = T1 := ⟨_, rfl⟩
      rw [hT1] at hSS
      obtain ⟨t1, z1, te1⟩ := T1
      simp only [Bool.false_eq_true, if_false] at hSS
      subst hSS
      have hS0 : ¬ S.length = 0 := by omega
      have hS1 : ¬ (S.length : Int) < 1 := by omega
      have hl62 : (l.length : Int) ≤ 62 := by omega
      have hl0 : (0 : Int) ≤ l.length := by omega
      have hsr := selR_len (rowN_iff.1 hS.row).2
      have hS8 : S.length ≤ 5864062014806 := by omega
      simp (decide := true) (maxSteps := 4000000) only [go_sem, Nat.reduceAdd, Nat.reduceSub, Nat.reduceMul, Nat.reduceDiv, Nat.reduceMod, Nat.reduceLT, Nat.reduceLeDiff, Nat.reduceEqDiff, Nat.reduceBEq, Nat.reduceBNe, Nat.reduceGT, Int.reduceAdd, Int.reduceSub, Int.reduceMul, Int.reduceNeg, Int.reduceLT, Int.reduceLE, Int.reduceEq, Int.reduceNe, Int.reduceBEq, Int.reduceBNe, Int.reduceToNat, Int.reduceGT, Int.reduceGE, ↓reduceIte, decide_true, decide_false, eq_self, Nat.mul_one, Nat.zero_mul, Nat.one_mul, Int.le_refl, Nat.le_refl, Int.cast_ofNat_Int, Try.f11, Vial.t, Vial.cs, unRds_eq, unI_eq, hT, hl, hf, TE.t, Span.t, Span.cs, hb8, leafS, nI_len, toN_nI, hrow, hl0, hl62, Int.toNat_natCast, hS1, h8.2, hS0, hsr, hS8, hT1]
      have hrr : ∀ k, k < S.length → 1 < S.length → rowN l.length (S.eraseIdx k) ∧ S.eraseIdx k ≠ [] ∧ ¬ badN v (l.map mid) (S.eraseIdx k) := fun k h1 h2 => least_less hS h1 h2
      refine pwpC_loopU (A := { k : Nat // k ≤ S.length }) [1, 2, 3, 7] (fun k => [(17, .t (.int .i64 k.1))]) (fun k => []) (fun k => S.length - k.1) ⟨0, by omega⟩ (by decide) (fun _ => by rfl) ?_ fun Q1 hQ1 ⟨k, hk⟩ I1 hI1 => ?_
      · simp (decide := true) (maxSteps := 4000000) only [go_sem, Nat.reduceAdd, Nat.reduceSub, Nat.reduceMul, Nat.reduceDiv, Nat.reduceMod, Nat.reduceLT, Nat.reduceLeDiff, Nat.reduceEqDiff, Nat.reduceBEq, Nat.reduceBNe, Nat.reduceGT, Int.reduceAdd, Int.reduceSub, Int.reduceMul, Int.reduceNeg, Int.reduceLT, Int.reduceLE, Int.reduceEq, Int.reduceNe, Int.reduceBEq, Int.reduceBNe, Int.reduceToNat, Int.reduceGT, Int.reduceGE, ↓reduceIte, decide_true, decide_false, eq_self, Nat.mul_one, Nat.zero_mul, Nat.one_mul, Int.le_refl, Nat.le_refl, Int.cast_ofNat_Int]
      · by_cases hlt : (k : Int) < S.length ∧ (S.length : Int) > 1
        · obtain ⟨hlt, hgt⟩ := hlt
          obtain ⟨r1, r2, r3⟩ := hrr k (by omega) (by omega)
          have hc1 : IntKind.i64.wrap (k + 1) = ((k + 1 : Nat) : Int) := by rw [wrap_in (by omega) (by omega)]; omega
          have hRl := List.length_eraseIdx_of_lt (show k < S.length by omega)
          have hRR := tilt_selR hk' r1 r2
          have hRb : (tilts v (selN (l.map mid) (S.eraseIdx k))).is = true := by simpa [badN] using r3
          rw [hRb] at hRR
          have hRrow := rowB_t r1
          have hRsr := selR_len (rowN_iff.1 r1).2
          have hRe := nI_erase (S := S) (k := k)
          obtain ⟨R, hR⟩ : ∃ R, S.eraseIdx k = R := ⟨_, rfl⟩
          rw [hR] at r1 r2 r3 hRl hRR hRrow hRsr hRe
          obtain ⟨T2, hT2⟩ : ∃ T2, tiltR v (selR l R) = T2 := ⟨_, rfl⟩
          rw [hT2] at hRR
          obtain ⟨t2, z2, te2⟩ := T2
          simp only [if_true] at hRR
          subst hRR
          have hR0 : ¬ R.length = 0 := by omega
          have hR8 : R.length ≤ 5864062014806 := by omega
          have hkl : (k : Int) ≤ S.length := by omega
          have hkl1 : ((k + 1 : Nat) : Int) ≤ S.length := by omega
          have hTl : (List.take k (ints (nI S))).length = k := by rw [List.length_take, ints_len, nI_len]; omega
          have hDl : (List.drop (k + 1) (ints (nI S))).length = S.length - (k + 1) := by rw [List.length_drop, ints_len, nI_len]
          have hTS : List.take S.length (ints (nI S)) = ints (nI S) := List.take_of_length_le (by rw [ints_len, nI_len]; omega)
          have hm1 : k * 8 ≤ 140737488355328 := by omega
          have hm2 : (k + (S.length - (k + 1))) * 8 ≤ 140737488355328 := by omega
          have hR1 : k + (S.length - (k + 1)) = R.length := by omega
          have hRm : R.length * 8 ≤ 140737488355328 := by omega
          rcases Nat.eq_zero_or_pos k with h0 | h0
          · subst h0
            have hlt0 : (0 : Int) < S.length := by omega
            have hS1' : ¬ S.length - (0 + 1) = 0 := by omega
            have w1 : IntKind.i64.wrap 1 = 1 := rfl
            have h1S : (1 : Int) ≤ S.length := by omega
            simp only [Int.cast_ofNat_Int, Nat.zero_add, List.take_zero, List.nil_append] at hkl1 hDl hm2 hR1 hRe hc1 hS1'
            simp (decide := true) (maxSteps := 4000000) only [go_sem, Nat.reduceAdd, Nat.reduceSub, Nat.reduceMul, Nat.reduceDiv, Nat.reduceMod, Nat.reduceLT, Nat.reduceLeDiff, Nat.reduceEqDiff, Nat.reduceBEq, Nat.reduceBNe, Nat.reduceGT, Int.reduceAdd, Int.reduceSub, Int.reduceMul, Int.reduceNeg, Int.reduceLT, Int.reduceLE, Int.reduceEq, Int.reduceNe, Int.reduceBEq, Int.reduceBNe, Int.reduceToNat, Int.reduceGT, Int.reduceGE, ↓reduceIte, decide_true, decide_false, eq_self, Nat.mul_one, Nat.zero_mul, Nat.one_mul, Int.le_refl, Nat.le_refl, Int.cast_ofNat_Int, w1, h1S, allO_t, hlt0, hgt, nI_len, ints_len, hkl1, hTS, hDl, hm2, hR1, hS1', ← hRe, hRm, unRds_eq, unI_eq, toN_nI, hRrow, h8.2, hR0, hRsr, hR8, hT2, hl, TE.t, Span.t, Span.cs, Vial.cs]
            refine hI1 _ ⟨0 + 1, by omega⟩ (by simp only; omega) ?_
            simp (decide := true) (maxSteps := 4000000) only [go_sem, Nat.reduceAdd, Nat.reduceSub, Nat.reduceMul, Nat.reduceDiv, Nat.reduceMod, Nat.reduceLT, Nat.reduceLeDiff, Nat.reduceEqDiff, Nat.reduceBEq, Nat.reduceBNe, Nat.reduceGT, Int.reduceAdd, Int.reduceSub, Int.reduceMul, Int.reduceNeg, Int.reduceLT, Int.reduceLE, Int.reduceEq, Int.reduceNe, Int.reduceBEq, Int.reduceBNe, Int.reduceToNat, Int.reduceGT, Int.reduceGE, ↓reduceIte, decide_true, decide_false, eq_self, Nat.mul_one, Nat.zero_mul, Nat.one_mul, Int.le_refl, Nat.le_refl, Int.cast_ofNat_Int, hc1]
          · have hk0 : ¬ k = 0 := by omega
            by_cases hlast : S.length - (k + 1) = 0
            · have hDn : List.drop (k + 1) (ints (nI S)) = [] := List.length_eq_zero_iff.1 (by omega)
              rw [hDn, List.append_nil] at hRe
              have hRk : (k = R.length) = True := eq_true (by omega)
              have hRk2 : (R.length = k) = True := eq_true (by omega)
              simp (decide := true) (maxSteps := 4000000) only [go_sem, Nat.reduceAdd, Nat.reduceSub, Nat.reduceMul, Nat.reduceDiv, Nat.reduceMod, Nat.reduceLT, Nat.reduceLeDiff, Nat.reduceEqDiff, Nat.reduceBEq, Nat.reduceBNe, Nat.reduceGT, Int.reduceAdd, Int.reduceSub, Int.reduceMul, Int.reduceNeg, Int.reduceLT, Int.reduceLE, Int.reduceEq, Int.reduceNe, Int.reduceBEq, Int.reduceBNe, Int.reduceToNat, Int.reduceGT, Int.reduceGE, ↓reduceIte, decide_true, decide_false, eq_self, Nat.mul_one, Nat.zero_mul, Nat.one_mul, Int.le_refl, Nat.le_refl, Int.cast_ofNat_Int, allO_t, hc1, hlt, hgt, nI_len, ints_len, hkl, hkl1, hTS, hTl, hDl, hm1, hk0, hlast, hDn, ← hRe, hRk, hRk2, hRm, unRds_eq, unI_eq, toN_nI, hRrow, h8.2, hR0, hRsr, hR8, hT2, hl, TE.t, Span.t, Span.cs, Vial.cs]
              refine hI1 _ ⟨k + 1, by omega⟩ (by simp only; omega) ?_
              simp (decide := true) (maxSteps := 4000000) only [go_sem, Nat.reduceAdd, Nat.reduceSub, Nat.reduceMul, Nat.reduceDiv, Nat.reduceMod, Nat.reduceLT, Nat.reduceLeDiff, Nat.reduceEqDiff, Nat.reduceBEq, Nat.reduceBNe, Nat.reduceGT, Int.reduceAdd, Int.reduceSub, Int.reduceMul, Int.reduceNeg, Int.reduceLT, Int.reduceLE, Int.reduceEq, Int.reduceNe, Int.reduceBEq, Int.reduceBNe, Int.reduceToNat, Int.reduceGT, Int.reduceGE, ↓reduceIte, decide_true, decide_false, eq_self, Nat.mul_one, Nat.zero_mul, Nat.one_mul, Int.le_refl, Nat.le_refl, Int.cast_ofNat_Int, hc1]
            · simp (decide := true) (maxSteps := 4000000) only [go_sem, Nat.reduceAdd, Nat.reduceSub, Nat.reduceMul, Nat.reduceDiv, Nat.reduceMod, Nat.reduceLT, Nat.reduceLeDiff, Nat.reduceEqDiff, Nat.reduceBEq, Nat.reduceBNe, Nat.reduceGT, Int.reduceAdd, Int.reduceSub, Int.reduceMul, Int.reduceNeg, Int.reduceLT, Int.reduceLE, Int.reduceEq, Int.reduceNe, Int.reduceBEq, Int.reduceBNe, Int.reduceToNat, Int.reduceGT, Int.reduceGE, ↓reduceIte, decide_true, decide_false, eq_self, Nat.mul_one, Nat.zero_mul, Nat.one_mul, Int.le_refl, Nat.le_refl, Int.cast_ofNat_Int, allO_t, hc1, hlt, hgt, nI_len, ints_len, hkl, hkl1, hTS, hTl, hDl, hm1, hm2, hR1, hk0, hlast, ← hRe, hRm, unRds_eq, unI_eq, toN_nI, hRrow, h8.2, hR0, hRsr, hR8, hT2, hl, TE.t, Span.t, Span.cs, Vial.cs]
              refine hI1 _ ⟨k + 1, by omega⟩ (by simp only; omega) ?_
              simp (decide := true) (maxSteps := 4000000) only [go_sem, Nat.reduceAdd, Nat.reduceSub, Nat.reduceMul, Nat.reduceDiv, Nat.reduceMod, Nat.reduceLT, Nat.reduceLeDiff, Nat.reduceEqDiff, Nat.reduceBEq, Nat.reduceBNe, Nat.reduceGT, Int.reduceAdd, Int.reduceSub, Int.reduceMul, Int.reduceNeg, Int.reduceLT, Int.reduceLE, Int.reduceEq, Int.reduceNe, Int.reduceBEq, Int.reduceBNe, Int.reduceToNat, Int.reduceGT, Int.reduceGE, ↓reduceIte, decide_true, decide_false, eq_self, Nat.mul_one, Nat.zero_mul, Nat.one_mul, Int.le_refl, Nat.le_refl, Int.cast_ofNat_Int, hc1]
        · obtain ⟨N, hN⟩ : ∃ N, 2 ^ l.length = N := ⟨_, rfl⟩
          have hNb : 2 ≤ N ∧ N ≤ 256 := by
            rcases (show l.length = 1 ∨ l.length = 2 ∨ l.length = 3 ∨ l.length = 4 ∨ l.length = 5 ∨ l.length = 6 ∨ l.length = 7 ∨ l.length = 8 by omega) with e | e | e | e | e | e | e | e <;> rw [e] at hN <;> subst hN <;> decide
          have hlz : ¬ (l.length : Int) < 0 := by omega
          have hsh : IntKind.i64.wrap (1 * 2 ^ min l.length 64) = (N : Int) := by
            rcases (show l.length = 1 ∨ l.length = 2 ∨ l.length = 3 ∨ l.length = 4 ∨ l.length = 5 ∨ l.length = 6 ∨ l.length = 7 ∨ l.length = 8 by omega) with e | e | e | e | e | e | e | e <;> rw [e] at hN ⊢ <;> subst hN <;> rfl
          have hmod : 0 < (N : Int) ∧ (N : Int) ≤ 9223372036854775807 := by omega
          have i0 := Int.emod_nonneg set (show (N : Int) ≠ 0 by omega)
          obtain ⟨m, hm⟩ : ∃ m : Nat, set % (N : Int) = m := ⟨(set % N).toNat, (Int.toNat_of_nonneg i0).symm⟩
          have hmem : 0 ≤ (m : Int) ∧ 0 ≤ (l.length : Int) ∧ (l.length : Int) ≤ 62 := by omega
          have hrs : rowN l.length (setN l.length m) := ⟨m.testBit, rfl⟩
          obtain ⟨R, hR⟩ : ∃ R, setN l.length m = R := ⟨_, rfl⟩
          rw [hR] at hrs
          have hRrow := rowB_t hrs
          have hRsr := selR_len (rowN_iff.1 hrs).2
          have hRl := rowN_len hrs
          have hR8 : R.length ≤ 5864062014806 := by omega
          have hR62 : R.length ≤ 62 := by omega
          have hS62 : S.length ≤ 62 := by omega
          have tail : ∀ c : Bool, c = false → True := fun _ _ => trivial
          have hend : ∀ (x y : Bool), x = false ∨ y = false → (x && y) = false := by intro x y h; rcases h with rfl | rfl <;> simp
          have hcond : (decide ((k : Int) < S.length) && decide ((S.length : Int) > 1)) = false := by
            rw [← Bool.not_eq_true]; simp only [Bool.and_eq_true, decide_eq_true_eq]; exact hlt
          rcases Nat.eq_zero_or_pos R.length with h0 | h0
          · have hRn : rowI (nI R) = .nilSl := by rw [List.length_eq_zero_iff.1 h0]; rfl
            by_cases hk1 : (k : Int) < S.length
            · have hk2 : ¬ (S.length : Int) > 1 := fun h => hlt ⟨hk1, h⟩
              simp (decide := true) (maxSteps := 4000000) only [go_sem, Nat.reduceAdd, Nat.reduceSub, Nat.reduceMul, Nat.reduceDiv, Nat.reduceMod, Nat.reduceLT, Nat.reduceLeDiff, Nat.reduceEqDiff, Nat.reduceBEq, Nat.reduceBNe, Nat.reduceGT, Int.reduceAdd, Int.reduceSub, Int.reduceMul, Int.reduceNeg, Int.reduceLT, Int.reduceLE, Int.reduceEq, Int.reduceNe, Int.reduceBEq, Int.reduceBNe, Int.reduceToNat, Int.reduceGT, Int.reduceGE, ↓reduceIte, decide_true, decide_false, eq_self, Nat.mul_one, Nat.zero_mul, Nat.one_mul, Int.le_refl, Nat.le_refl, Int.cast_ofNat_Int, hk1, hk2, nI_len]
              refine hQ1 _ _ ?_
              simp (decide := true) (maxSteps := 4000000) only [go_sem, Nat.reduceAdd, Nat.reduceSub, Nat.reduceMul, Nat.reduceDiv, Nat.reduceMod, Nat.reduceLT, Nat.reduceLeDiff, Nat.reduceEqDiff, Nat.reduceBEq, Nat.reduceBNe, Nat.reduceGT, Int.reduceAdd, Int.reduceSub, Int.reduceMul, Int.reduceNeg, Int.reduceLT, Int.reduceLE, Int.reduceEq, Int.reduceNe, Int.reduceBEq, Int.reduceBNe, Int.reduceToNat, Int.reduceGT, Int.reduceGE, ↓reduceIte, decide_true, decide_false, eq_self, Nat.mul_one, Nat.zero_mul, Nat.one_mul, Int.le_refl, Nat.le_refl, Int.cast_ofNat_Int, hlz, hsh, hmod, hm, hmem, Int.toNat_natCast, hR, hRn, beq_self_eq_true]
            · simp (decide := true) (maxSteps := 4000000) only [go_sem, Nat.reduceAdd, Nat.reduceSub, Nat.reduceMul, Nat.reduceDiv, Nat.reduceMod, Nat.reduceLT, Nat.reduceLeDiff, Nat.reduceEqDiff, Nat.reduceBEq, Nat.reduceBNe, Nat.reduceGT, Int.reduceAdd, Int.reduceSub, Int.reduceMul, Int.reduceNeg, Int.reduceLT, Int.reduceLE, Int.reduceEq, Int.reduceNe, Int.reduceBEq, Int.reduceBNe, Int.reduceToNat, Int.reduceGT, Int.reduceGE, ↓reduceIte, decide_true, decide_false, eq_self, Nat.mul_one, Nat.zero_mul, Nat.one_mul, Int.le_refl, Nat.le_refl, Int.cast_ofNat_Int, hk1, nI_len]
              refine hQ1 _ _ ?_
              simp (decide := true) (maxSteps := 4000000) only [go_sem, Nat.reduceAdd, Nat.reduceSub, Nat.reduceMul, Nat.reduceDiv, Nat.reduceMod, Nat.reduceLT, Nat.reduceLeDiff, Nat.reduceEqDiff, Nat.reduceBEq, Nat.reduceBNe, Nat.reduceGT, Int.reduceAdd, Int.reduceSub, Int.reduceMul, Int.reduceNeg, Int.reduceLT, Int.reduceLE, Int.reduceEq, Int.reduceNe, Int.reduceBEq, Int.reduceBNe, Int.reduceToNat, Int.reduceGT, Int.reduceGE, ↓reduceIte, decide_true, decide_false, eq_self, Nat.mul_one, Nat.zero_mul, Nat.one_mul, Int.le_refl, Nat.le_refl, Int.cast_ofNat_Int, hlz, hsh, hmod, hm, hmem, Int.toNat_natCast, hR, hRn, beq_self_eq_true]
          · have hne : R ≠ [] := fun h => by rw [h] at h0; simp at h0
            have hR0 : ¬ R.length = 0 := by omega
            have hR0' : ((R.length : Int) == 0) = false := beq_int_f (by omega)
            have hRn := rowI_ne (l := nI R) (by rw [nI_len]; omega)
            rw [nI_len] at hRn
            have hRR := tilt_selR hk' hrs hne
            obtain ⟨T2, hT2⟩ : ∃ T2, tiltR v (selR l R) = T2 := ⟨_, rfl⟩
            rw [hT2] at hRR
            obtain ⟨t2, z2, te2⟩ := T2
            have hfin : (te2 == 0 || !before (nI R) (nI S) || decide ((R.length : Int) > S.length)) = true ∧ (te2 == 0 || decide ((R.length : Int) ≥ S.length)) = true := by
              simp only at hRR
              cases hb : (tilts v (selN (l.map mid) R)).is with
              | true => rw [hb] at hRR; simp only [if_true] at hRR; subst hRR; exact ⟨rfl, rfl⟩
              | false =>
                have hmin := hS.min R hrs hne hb
                unfold bet at hmin
                rw [nI_len, nI_len] at hmin
                have h1 : (R.length : Int) ≥ S.length := by
                  rcases Nat.lt_or_ge R.length S.length with h | h
                  · exact absurd (.inl h) hmin
                  · omega
                refine ⟨?_, by simp [h1]⟩
                by_cases h2 : (R.length : Int) > S.length
                · simp [h2]
                · cases h3 : before (nI R) (nI S) with
                  | false => simp
                  | true => exact absurd (.inr ⟨by omega, h3⟩) hmin
            have hcase : (te2 == 0) = true ∨ (te2 == 0) = false ∧ (R.length : Int) ≥ S.length ∧ (before (nI R) (nI S) = false ∨ before (nI R) (nI S) = true ∧ (R.length : Int) > S.length) := by
              obtain ⟨hf1, hf2⟩ := hfin
              cases hb1 : (te2 == 0) with
              | true => exact .inl rfl
              | false =>
                rw [hb1] at hf1 hf2
                simp only [Bool.false_or, decide_eq_true_eq] at hf2
                refine .inr ⟨rfl, hf2, ?_⟩
                cases hb2 : before (nI R) (nI S) with
                | false => exact .inl rfl
                | true => rw [hb2] at hf1; simp only [Bool.not_true, Bool.false_or, decide_eq_true_eq] at hf1; exact .inr ⟨rfl, hf1⟩
            rcases hcase with hb1 | ⟨hb1, hge, hb2 | ⟨hb2, hgt⟩⟩
            · by_cases hk1 : (k : Int) < S.length
              · have hk2 : ¬ (S.length : Int) > 1 := fun h => hlt ⟨hk1, h⟩
                simp (decide := true) (maxSteps := 4000000) only [go_sem, Nat.reduceAdd, Nat.reduceSub, Nat.reduceMul, Nat.reduceDiv, Nat.reduceMod, Nat.reduceLT, Nat.reduceLeDiff, Nat.reduceEqDiff, Nat.reduceBEq, Nat.reduceBNe, Nat.reduceGT, Int.reduceAdd, Int.reduceSub, Int.reduceMul, Int.reduceNeg, Int.reduceLT, Int.reduceLE, Int.reduceEq, Int.reduceNe, Int.reduceBEq, Int.reduceBNe, Int.reduceToNat, Int.reduceGT, Int.reduceGE, ↓reduceIte, decide_true, decide_false, eq_self, Nat.mul_one, Nat.zero_mul, Nat.one_mul, Int.le_refl, Nat.le_refl, Int.cast_ofNat_Int, hk1, hk2, nI_len]
                refine hQ1 _ _ ?_
                simp (decide := true) (maxSteps := 4000000) only [go_sem, Nat.reduceAdd, Nat.reduceSub, Nat.reduceMul, Nat.reduceDiv, Nat.reduceMod, Nat.reduceLT, Nat.reduceLeDiff, Nat.reduceEqDiff, Nat.reduceBEq, Nat.reduceBNe, Nat.reduceGT, Int.reduceAdd, Int.reduceSub, Int.reduceMul, Int.reduceNeg, Int.reduceLT, Int.reduceLE, Int.reduceEq, Int.reduceNe, Int.reduceBEq, Int.reduceBNe, Int.reduceToNat, Int.reduceGT, Int.reduceGE, ↓reduceIte, decide_true, decide_false, eq_self, Nat.mul_one, Nat.zero_mul, Nat.one_mul, Int.le_refl, Nat.le_refl, Int.cast_ofNat_Int, hlz, hsh, hmod, hm, hmem, Int.toNat_natCast, hR, hRn, hR0', unRds_eq, unI_eq, nI_len, toN_nI, hRrow, h8.2, hR0, hRsr, hR8, hT2, hl, TE.t, Span.t, Span.cs, Vial.cs, hR62, hS62, hb1]
              · simp (decide := true) (maxSteps := 4000000) only [go_sem, Nat.reduceAdd, Nat.reduceSub, Nat.reduceMul, Nat.reduceDiv, Nat.reduceMod, Nat.reduceLT, Nat.reduceLeDiff, Nat.reduceEqDiff, Nat.reduceBEq, Nat.reduceBNe, Nat.reduceGT, Int.reduceAdd, Int.reduceSub, Int.reduceMul, Int.reduceNeg, Int.reduceLT, Int.reduceLE, Int.reduceEq, Int.reduceNe, Int.reduceBEq, Int.reduceBNe, Int.reduceToNat, Int.reduceGT, Int.reduceGE, ↓reduceIte, decide_true, decide_false, eq_self, Nat.mul_one, Nat.zero_mul, Nat.one_mul, Int.le_refl, Nat.le_refl, Int.cast_ofNat_Int, hk1, nI_len]
                refine hQ1 _ _ ?_
                simp (decide := true) (maxSteps := 4000000) only [go_sem, Nat.reduceAdd, Nat.reduceSub, Nat.reduceMul, Nat.reduceDiv, Nat.reduceMod, Nat.reduceLT, Nat.reduceLeDiff, Nat.reduceEqDiff, Nat.reduceBEq, Nat.reduceBNe, Nat.reduceGT, Int.reduceAdd, Int.reduceSub, Int.reduceMul, Int.reduceNeg, Int.reduceLT, Int.reduceLE, Int.reduceEq, Int.reduceNe, Int.reduceBEq, Int.reduceBNe, Int.reduceToNat, Int.reduceGT, Int.reduceGE, ↓reduceIte, decide_true, decide_false, eq_self, Nat.mul_one, Nat.zero_mul, Nat.one_mul, Int.le_refl, Nat.le_refl, Int.cast_ofNat_Int, hlz, hsh, hmod, hm, hmem, Int.toNat_natCast, hR, hRn, hR0', unRds_eq, unI_eq, nI_len, toN_nI, hRrow, h8.2, hR0, hRsr, hR8, hT2, hl, TE.t, Span.t, Span.cs, Vial.cs, hR62, hS62, hb1]
            · by_cases hk1 : (k : Int) < S.length
              · have hk2 : ¬ (S.length : Int) > 1 := fun h => hlt ⟨hk1, h⟩
                simp (decide := true) (maxSteps := 4000000) only [go_sem, Nat.reduceAdd, Nat.reduceSub, Nat.reduceMul, Nat.reduceDiv, Nat.reduceMod, Nat.reduceLT, Nat.reduceLeDiff, Nat.reduceEqDiff, Nat.reduceBEq, Nat.reduceBNe, Nat.reduceGT, Int.reduceAdd, Int.reduceSub, Int.reduceMul, Int.reduceNeg, Int.reduceLT, Int.reduceLE, Int.reduceEq, Int.reduceNe, Int.reduceBEq, Int.reduceBNe, Int.reduceToNat, Int.reduceGT, Int.reduceGE, ↓reduceIte, decide_true, decide_false, eq_self, Nat.mul_one, Nat.zero_mul, Nat.one_mul, Int.le_refl, Nat.le_refl, Int.cast_ofNat_Int, hk1, hk2, nI_len]
                refine hQ1 _ _ ?_
                simp (decide := true) (maxSteps := 4000000) only [go_sem, Nat.reduceAdd, Nat.reduceSub, Nat.reduceMul, Nat.reduceDiv, Nat.reduceMod, Nat.reduceLT, Nat.reduceLeDiff, Nat.reduceEqDiff, Nat.reduceBEq, Nat.reduceBNe, Nat.reduceGT, Int.reduceAdd, Int.reduceSub, Int.reduceMul, Int.reduceNeg, Int.reduceLT, Int.reduceLE, Int.reduceEq, Int.reduceNe, Int.reduceBEq, Int.reduceBNe, Int.reduceToNat, Int.reduceGT, Int.reduceGE, ↓reduceIte, decide_true, decide_false, eq_self, Nat.mul_one, Nat.zero_mul, Nat.one_mul, Int.le_refl, Nat.le_refl, Int.cast_ofNat_Int, hlz, hsh, hmod, hm, hmem, Int.toNat_natCast, hR, hRn, hR0', unRds_eq, unI_eq, nI_len, toN_nI, hRrow, h8.2, hR0, hRsr, hR8, hT2, hl, TE.t, Span.t, Span.cs, Vial.cs, hR62, hS62, hb1, hge, hb2]
              · simp (decide := true) (maxSteps := 4000000) only [go_sem, Nat.reduceAdd, Nat.reduceSub, Nat.reduceMul, Nat.reduceDiv, Nat.reduceMod, Nat.reduceLT, Nat.reduceLeDiff, Nat.reduceEqDiff, Nat.reduceBEq, Nat.reduceBNe, Nat.reduceGT, Int.reduceAdd, Int.reduceSub, Int.reduceMul, Int.reduceNeg, Int.reduceLT, Int.reduceLE, Int.reduceEq, Int.reduceNe, Int.reduceBEq, Int.reduceBNe, Int.reduceToNat, Int.reduceGT, Int.reduceGE, ↓reduceIte, decide_true, decide_false, eq_self, Nat.mul_one, Nat.zero_mul, Nat.one_mul, Int.le_refl, Nat.le_refl, Int.cast_ofNat_Int, hk1, nI_len]
                refine hQ1 _ _ ?_
                simp (decide := true) (maxSteps := 4000000) only [go_sem, Nat.reduceAdd, Nat.reduceSub, Nat.reduceMul, Nat.reduceDiv, Nat.reduceMod, Nat.reduceLT, Nat.reduceLeDiff, Nat.reduceEqDiff, Nat.reduceBEq, Nat.reduceBNe, Nat.reduceGT, Int.reduceAdd, Int.reduceSub, Int.reduceMul, Int.reduceNeg, Int.reduceLT, Int.reduceLE, Int.reduceEq, Int.reduceNe, Int.reduceBEq, Int.reduceBNe, Int.reduceToNat, Int.reduceGT, Int.reduceGE, ↓reduceIte, decide_true, decide_false, eq_self, Nat.mul_one, Nat.zero_mul, Nat.one_mul, Int.le_refl, Nat.le_refl, Int.cast_ofNat_Int, hlz, hsh, hmod, hm, hmem, Int.toNat_natCast, hR, hRn, hR0', unRds_eq, unI_eq, nI_len, toN_nI, hRrow, h8.2, hR0, hRsr, hR8, hT2, hl, TE.t, Span.t, Span.cs, Vial.cs, hR62, hS62, hb1, hge, hb2]
            · by_cases hk1 : (k : Int) < S.length
              · have hk2 : ¬ (S.length : Int) > 1 := fun h => hlt ⟨hk1, h⟩
                simp (decide := true) (maxSteps := 4000000) only [go_sem, Nat.reduceAdd, Nat.reduceSub, Nat.reduceMul, Nat.reduceDiv, Nat.reduceMod, Nat.reduceLT, Nat.reduceLeDiff, Nat.reduceEqDiff, Nat.reduceBEq, Nat.reduceBNe, Nat.reduceGT, Int.reduceAdd, Int.reduceSub, Int.reduceMul, Int.reduceNeg, Int.reduceLT, Int.reduceLE, Int.reduceEq, Int.reduceNe, Int.reduceBEq, Int.reduceBNe, Int.reduceToNat, Int.reduceGT, Int.reduceGE, ↓reduceIte, decide_true, decide_false, eq_self, Nat.mul_one, Nat.zero_mul, Nat.one_mul, Int.le_refl, Nat.le_refl, Int.cast_ofNat_Int, hk1, hk2, nI_len]
                refine hQ1 _ _ ?_
                simp (decide := true) (maxSteps := 4000000) only [go_sem, Nat.reduceAdd, Nat.reduceSub, Nat.reduceMul, Nat.reduceDiv, Nat.reduceMod, Nat.reduceLT, Nat.reduceLeDiff, Nat.reduceEqDiff, Nat.reduceBEq, Nat.reduceBNe, Nat.reduceGT, Int.reduceAdd, Int.reduceSub, Int.reduceMul, Int.reduceNeg, Int.reduceLT, Int.reduceLE, Int.reduceEq, Int.reduceNe, Int.reduceBEq, Int.reduceBNe, Int.reduceToNat, Int.reduceGT, Int.reduceGE, ↓reduceIte, decide_true, decide_false, eq_self, Nat.mul_one, Nat.zero_mul, Nat.one_mul, Int.le_refl, Nat.le_refl, Int.cast_ofNat_Int, hlz, hsh, hmod, hm, hmem, Int.toNat_natCast, hR, hRn, hR0', unRds_eq, unI_eq, nI_len, toN_nI, hRrow, h8.2, hR0, hRsr, hR8, hT2, hl, TE.t, Span.t, Span.cs, Vial.cs, hR62, hS62, hb1, hge, hb2, hgt]
              · simp (decide := true) (maxSteps := 4000000) only [go_sem, Nat.reduceAdd, Nat.reduceSub, Nat.reduceMul, Nat.reduceDiv, Nat.reduceMod, Nat.reduceLT, Nat.reduceLeDiff, Nat.reduceEqDiff, Nat.reduceBEq, Nat.reduceBNe, Nat.reduceGT, Int.reduceAdd, Int.reduceSub, Int.reduceMul, Int.reduceNeg, Int.reduceLT, Int.reduceLE, Int.reduceEq, Int.reduceNe, Int.reduceBEq, Int.reduceBNe, Int.reduceToNat, Int.reduceGT, Int.reduceGE, ↓reduceIte, decide_true, decide_false, eq_self, Nat.mul_one, Nat.zero_mul, Nat.one_mul, Int.le_refl, Nat.le_refl, Int.cast_ofNat_Int, hk1, nI_len]
                refine hQ1 _ _ ?_
                simp (decide := true) (maxSteps := 4000000) only [go_sem, Nat.reduceAdd, Nat.reduceSub, Nat.reduceMul, Nat.reduceDiv, Nat.reduceMod, Nat.reduceLT, Nat.reduceLeDiff, Nat.reduceEqDiff, Nat.reduceBEq, Nat.reduceBNe, Nat.reduceGT, Int.reduceAdd, Int.reduceSub, Int.reduceMul, Int.reduceNeg, Int.reduceLT, Int.reduceLE, Int.reduceEq, Int.reduceNe, Int.reduceBEq, Int.reduceBNe, Int.reduceToNat, Int.reduceGT, Int.reduceGE, ↓reduceIte, decide_true, decide_false, eq_self, Nat.mul_one, Nat.zero_mul, Nat.one_mul, Int.le_refl, Nat.le_refl, Int.cast_ofNat_Int, hlz, hsh, hmod, hm, hmem, Int.toNat_natCast, hR, hRn, hR0', unRds_eq, unI_eq, nI_len, toN_nI, hRrow, h8.2, hR0, hRsr, hR8, hT2, hl, TE.t, Span.t, Span.cs, Vial.cs, hR62, hS62, hb1, hge, hb2, hgt]
  · have hte : T = ⟨⟨0, 0⟩, ⟨0, 0⟩, asked v l⟩ := by rw [← hT]; unfold tiltR; rw [if_neg hk]
    have hf : falseP v l = (.nilSl, asked v l) := by unfold falseP; rw [if_neg hk]
    have hk4 : (asked v l != 4) = true := by unfold asked at hk ⊢; split <;> first | rfl | (split <;> first | rfl | simp_all)
    have hk0 : (asked v l != 0) = true := by simpa using hk
    subst hte
    rcases hs with ⟨rfl, rfl⟩ | ⟨full, rfl⟩ <;> simp (decide := true) (maxSteps := 4000000) only [go_sem, Nat.reduceAdd, Nat.reduceSub, Nat.reduceMul, Nat.reduceDiv, Nat.reduceMod, Nat.reduceLT, Nat.reduceLeDiff, Nat.reduceEqDiff, Nat.reduceBEq, Nat.reduceBNe, Nat.reduceGT, Int.reduceAdd, Int.reduceSub, Int.reduceMul, Int.reduceNeg, Int.reduceLT, Int.reduceLE, Int.reduceEq, Int.reduceNe, Int.reduceBEq, Int.reduceBNe, Int.reduceToNat, Int.reduceGT, Int.reduceGE, ↓reduceIte, decide_true, decide_false, eq_self, Nat.mul_one, Nat.zero_mul, Nat.one_mul, Int.le_refl, Nat.le_refl, Int.cast_ofNat_Int, Try.f11, Vial.t, Vial.cs, unRds, unRds_eq, hT, hl, hf, hk, hk4, hk0, TE.t, Span.t, Span.cs, List.length_nil, beq_self_eq_true]
end Go.Proofs.Ytgofljmnlfnlnaa
