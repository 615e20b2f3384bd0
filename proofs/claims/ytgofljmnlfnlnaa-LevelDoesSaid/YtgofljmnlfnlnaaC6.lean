/- What the claim leans on, text 6. -/
import Derived.Test.YtgofljmnlfnlnaaC5
set_option linter.unusedSimpArgs false
set_option linter.unusedVariables false

/- Part Mi. -/
namespace Go.Oc
open Go Go.Pm Go.Proofs.Ytgofljmnlfnlnaa
/-- Is a tilt met with one of so many zeros, and an end of the value? -/
def metT (v : Vial) (l : List Mk) (t : Int) (j : Nat) : Bool := (List.range j).any fun i => canB v l v.v0 (v.z0 + (i : Int)) t || canB v l v.v1 (v.z0 + (i : Int)) t
theorem metT_succ (v : Vial) (l : List Mk) (t : Int) (j : Nat) : metT v l t (j + 1) = (metT v l t j || (canB v l v.v0 (v.z0 + (j : Int)) t || canB v l v.v1 (v.z0 + (j : Int)) t)) := by
  unfold metT; rw [List.range_succ, List.any_append]; simp
/-- Is a zero met, with one of so many tilts? -/
def metZ (v : Vial) (l : List Mk) (z : Int) (i : Nat) : Bool := (List.range i).any fun k => canB v l v.v0 z (((k : Int) - 408) * v.v0)
theorem metZ_succ (v : Vial) (l : List Mk) (z : Int) (i : Nat) : metZ v l z (i + 1) = (metZ v l z i || canB v l v.v0 z (((i : Int) - 408) * v.v0)) := by
  unfold metZ; rw [List.range_succ, List.any_append]; simp
theorem met_of {v : Vial} (hv : v.ok = true) {l : List Mk} (hm : mksOk l = true) (h1 : 1 ≤ l.length) {z t : Int} (hz : feas v l z) (ht : ((withinS v.wr l z).lo * v.v0 = t ∨ (withinS v.wr l z).hi * v.v0 = t) ∨ ((withinS v.wr l z).lo * v.v1 = t ∨ (withinS v.wr l z).hi * v.v1 = t)) :
    metT v l t (v.z1 - v.z0 + 1).toNat = true := by
  have hv' := Vial.ok_iff.1 hv
  unfold metT
  rw [List.any_eq_true]
  have hzr := hz.1
  refine ⟨(z - v.z0).toNat, List.mem_range.2 (by omega), ?_⟩
  rw [show v.z0 + ((z - v.z0).toNat : Int) = z by omega, Bool.or_eq_true, ← within_can hv hm h1 (by omega) (by omega) hz.1.1 hz.1.2, ← within_can hv hm h1 (by omega) (by omega) hz.1.1 hz.1.2]
  simp only [Bool.and_eq_true, decide_eq_true_eq, inB_iff]
  have h2 := hz.2
  have a := Int.mul_le_mul_of_nonneg_right (c := v.v0) h2 (by omega)
  have b := Int.mul_le_mul_of_nonneg_right (c := v.v1) h2 (by omega)
  rcases ht with ht | ht
  · left; omega
  · right; omega
theorem ends_met {v : Vial} (hv : v.ok = true) {l : List Rd} (hr : rdsOk v l = true) (hi : (tilts v (l.map mid)).is = true) :
    metT v (l.map mid) (tilts v (l.map mid)).tilt.lo (v.z1 - v.z0 + 1).toNat = true ∧ metT v (l.map mid) (tilts v (l.map mid)).tilt.hi (v.z1 - v.z0 + 1).toNat = true ∧
    metZ v (l.map mid) (tilts v (l.map mid)).zero.lo 817 = true ∧ metZ v (l.map mid) (tilts v (l.map mid)).zero.hi 817 = true := by
  have hv' := Vial.ok_iff.1 hv
  have hm := mksOk_mid hv hr
  have h8 := rdsOk_len hr
  have h1 : 1 ≤ (l.map mid).length := by rw [List.length_map]; omega
  obtain ⟨⟨z1, f1, e1⟩, ⟨z2, f2, e2⟩, f3, f4⟩ := tilts_at hi
  have zm : ∀ z, feas v (l.map mid) z → metZ v (l.map mid) z 817 = true := fun z hz => by
    have hz2 := hz.2
    obtain ⟨m, hmm⟩ : ∃ m, m ∈ l.map mid := by
      cases hl : l.map mid with
      | nil => rw [hl] at h1; simp at h1
      | cons m _ => exact ⟨m, List.mem_cons_self⟩
    have ho := outM_b (z := z) (List.all_eq_true.1 hm m hmm) (by have := hz.1; omega)
    have k1 := (fold_in_iff (w := v.wr) (z := z) (c := 1) (t := (withinS v.wr (l.map mid) z).lo) (by omega) (l.map mid) ⟨-10000, 10000⟩).1 (by
      rw [show (l.map mid).foldl (inS v.wr z) ⟨-10000, 10000⟩ = withinS v.wr (l.map mid) z from rfl]; omega)
    have k2 := k1.2 m hmm
    unfold metZ
    rw [List.any_eq_true]
    refine ⟨((withinS v.wr (l.map mid) z).lo + 408).toNat, List.mem_range.2 (by omega), ?_⟩
    rw [show (((withinS v.wr (l.map mid) z).lo + 408).toNat : Int) - 408 = (withinS v.wr (l.map mid) z).lo by omega, ← within_can hv hm h1 (by omega) (by omega) hz.1.1 hz.1.2]
    simp only [Bool.and_eq_true, decide_eq_true_eq, inB_iff]
    have a := Int.mul_le_mul_of_nonneg_right (c := v.v0) hz2 (by omega)
    omega
  refine ⟨met_of hv hm h1 f1 ?_, met_of hv hm h1 f2 ?_, zm _ f3, zm _ f4⟩
  · rw [e1]; unfold leastP; omega
  · rw [e2]; unfold mostP; omega
end Go.Oc
namespace Go.Proofs.Ytgofljmnlfnlnaa
open Go.RowKit Go.Pm Go.Oc
set_option maxRecDepth 100000
set_option linter.unusedVariables false
set_option maxHeartbeats 4000000

theorem orNot (m c : Bool) : (m || !m && c) = (m || c) := by cases m <;> cases c <;> rfl
theorem oSound_c (v : Vial) : PCalls Try.prog 33 [v.t] (.bool v.ok) := by
  refine pcalls_by Try.mixes spO1_ok (fn := Try.f33) Try.func33 rfl (by kernel_rfl) (by show 1 ≤ _; decide) ?_
  cases hv : v.ok with
  | false => simp (decide := true) (maxSteps := 4000000) only [go_sem, Nat.reduceAdd, Nat.reduceSub, Nat.reduceMul, Nat.reduceDiv, Nat.reduceMod, Nat.reduceLT, Nat.reduceLeDiff, Nat.reduceEqDiff, Nat.reduceBEq, Nat.reduceBNe, Nat.reduceGT, Int.reduceAdd, Int.reduceSub, Int.reduceMul, Int.reduceNeg, Int.reduceLT, Int.reduceLE, Int.reduceEq, Int.reduceNe, Int.reduceBEq, Int.reduceBNe, Int.reduceToNat, Int.reduceGT, Int.reduceGE, ↓reduceIte, decide_true, decide_false, eq_self, Nat.mul_one, Nat.zero_mul, Nat.one_mul, Int.le_refl, Nat.le_refl, Int.cast_ofNat_Int, Try.f33, Vial.t, Vial.cs, hv]
  | true =>
    have hv' := Vial.ok_iff.1 hv
    have h1 : inB v.marks 10 200 = true := inB_iff.2 (by omega)
    have h2 : spannedB ⟨v.z0, v.z1⟩ 0 400 = true := by simp [spannedB]; omega
    have h3 : spannedB ⟨v.v0, v.v1⟩ 1 500 = true := by simp [spannedB]; omega
    have h4 : inB v.wr 0 8 = true := inB_iff.2 (by omega)
    have h5 : spannedB ⟨v.l0, v.l1⟩ 1 v.marks = true := by simp [spannedB]; omega
    simp (decide := true) (maxSteps := 4000000) only [go_sem, Nat.reduceAdd, Nat.reduceSub, Nat.reduceMul, Nat.reduceDiv, Nat.reduceMod, Nat.reduceLT, Nat.reduceLeDiff, Nat.reduceEqDiff, Nat.reduceBEq, Nat.reduceBNe, Nat.reduceGT, Int.reduceAdd, Int.reduceSub, Int.reduceMul, Int.reduceNeg, Int.reduceLT, Int.reduceLE, Int.reduceEq, Int.reduceNe, Int.reduceBEq, Int.reduceBNe, Int.reduceToNat, Int.reduceGT, Int.reduceGE, ↓reduceIte, decide_true, decide_false, eq_self, Nat.mul_one, Nat.zero_mul, Nat.one_mul, Int.le_refl, Nat.le_refl, Int.cast_ofNat_Int, Try.f33, Vial.t, Vial.cs, hv, h1, h2, h3, h4, h5]
noncomputable def goSound : List TV → Option TV
  | [.agg [.int .i64 m, .int .i64 a, .int .i64 b, .int .i64 c, .int .i64 d, .int .i64 e, .int .i64 f, .int .i64 g]] => some (.bool (Vial.ok ⟨m, a, b, c, d, e, f, g⟩))
  | _ => none
theorem goSound_ok : ∀ xs r, goSound xs = some r → PCalls Try.prog 33 xs r := by
  intro xs r h
  unfold goSound at h
  split at h
  · cases h; exact oSound_c ⟨_, _, _, _, _, _, _, _⟩
  · cases h
attribute [go_sem] goSound
noncomputable def spS1 : Pm.Spec := spO1.one 33 goSound
@[go_sem] theorem spS1_p (f : FuncId) (xs : List TV) : spS1.p f xs = Pm.Spec.p (spO1.one 33 goSound) f xs := rfl
@[go_sem] theorem spS1_h (f : FuncId) (ps : List PV) (hl : List PO) : spS1.h f ps hl = Pm.Spec.h (spO1.one 33 goSound) f ps hl := rfl
@[go_sem] theorem spS1_fz (f : FuncId) : spS1.fz f = Pm.Spec.fz (spO1.one 33 goSound) f := rfl
@[go_sem] theorem spS1_fr (f : FuncId) : spS1.fr f = Pm.Spec.fr (spO1.one 33 goSound) f := rfl
@[go_sem] theorem spS1_mu (t : TypeId) : spS1.mu t = Pm.Spec.mu (spO1.one 33 goSound) t := rfl
theorem spS1_ok : SpecOk Try.prog spS1 := Spec.one_ok goSound_ok spO1_ok
noncomputable def spS2 : Pm.Spec := { spS1 with mu := fun t => t == 54 }
theorem spS2_ok : SpecOk Try.prog spS2 := ⟨spS1_ok.1, spS1_ok.2⟩
@[go_sem] theorem spS2_p (f : FuncId) (xs : List TV) : spS2.p f xs = spS1.p f xs := rfl
@[go_sem] theorem spS2_h (f : FuncId) (ps : List PV) (hl : List PO) : spS2.h f ps hl = spS1.h f ps hl := rfl
@[go_sem] theorem spS2_fz (f : FuncId) : spS2.fz f = spS1.fz f := rfl
@[go_sem] theorem spS2_fr (f : FuncId) : spS2.fr f = spS1.fr f := rfl
@[go_sem] theorem spS2_mu (t : TypeId) : spS2.mu t = (t == 54) := rfl
attribute [go_sem] popM
theorem LevelEnds_c (v : Vial) {l : List Rd} {s : TV} (hs : IsRow Rd.cs s l) (hl : l.length ≤ 5864062014806) : PCalls Try.prog 9 [v.t, s] (.bool true) := by
  refine pcalls_by Try.mixes spS2_ok (fn := Try.f9) Try.func9 rfl (by kernel_rfl) (by show 2 ≤ _; decide) ?_
  obtain ⟨T, hT⟩ : ∃ T, tiltR v l = T := ⟨_, rfl⟩
  have hte := tilt_e v l
  rw [hT] at hte
  obtain ⟨⟨t0, t1⟩, ⟨z0, z1⟩, te⟩ := T
  simp only [Span.mk.injEq] at hte
  by_cases h0 : te = 0
  · subst h0
    have hk : asked v l = 0 := by
      unfold tiltR at hT
      by_cases h : asked v l = 0
      · exact h
      · rw [if_neg h] at hT; exact congrArg TE.e hT
    obtain ⟨hv, hr⟩ := asked_zero hk
    have hv' := Vial.ok_iff.1 hv
    have h8 := rdsOk_len hr
    obtain ⟨full, rfl⟩ := hs.ne h8.1
    have hcan : ∀ tv z tt, v.v0 ≤ tv → tv ≤ v.v1 → v.z0 ≤ z → z ≤ v.z1 → canP v l tv z tt = (canB v (l.map mid) tv z tt, 0) := fun tv z tt a b c d => by
      unfold canP
      rw [if_pos hk, if_pos ⟨inB_iff.2 ⟨a, b⟩, inB_iff.2 ⟨c, d⟩⟩]
    obtain ⟨hi, e1, e2⟩ : (tilts v (l.map mid)).is = true ∧ (tilts v (l.map mid)).tilt = ⟨t0, t1⟩ ∧ (tilts v (l.map mid)).zero = ⟨z0, z1⟩ := by
      unfold tiltR at hT
      rw [if_pos hk] at hT
      cases hi : (tilts v (l.map mid)).is with
      | false => rw [hi] at hT; have := congrArg TE.e hT; simp at this
      | true => rw [hi] at hT; exact ⟨rfl, congrArg TE.tilt hT, congrArg TE.zero hT⟩
    have tm0 : Int.tmod 0 2 = 0 := rfl
    have tm1 : Int.tmod 1 2 = 1 := rfl
    have tm2 : Int.tmod 2 2 = 0 := rfl
    have tm3 : Int.tmod 3 2 = 1 := rfl
    obtain ⟨q0, q1, q2, q3⟩ := ends_met hv hr hi
    rw [e1] at q0 q1
    rw [e2] at q2 q3
    obtain ⟨_, _, hz0, hz1⟩ := tilts_at hi
    rw [e2] at hz0 hz1
    simp (decide := true) (maxSteps := 4000000) only [go_sem, Nat.reduceAdd, Nat.reduceSub, Nat.reduceMul, Nat.reduceDiv, Nat.reduceMod, Nat.reduceLT, Nat.reduceLeDiff, Nat.reduceEqDiff, Nat.reduceBEq, Nat.reduceBNe, Nat.reduceGT, Int.reduceAdd, Int.reduceSub, Int.reduceMul, Int.reduceNeg, Int.reduceLT, Int.reduceLE, Int.reduceEq, Int.reduceNe, Int.reduceBEq, Int.reduceBNe, Int.reduceToNat, Int.reduceGT, Int.reduceGE, ↓reduceIte, decide_true, decide_false, eq_self, Nat.mul_one, Nat.zero_mul, Nat.one_mul, Int.le_refl, Nat.le_refl, Int.cast_ofNat_Int, Try.f9, Vial.t, Vial.cs, hT, hv, hl, TE.t, Span.t, Span.cs]
    refine pwpC_loopU (A := { j : Nat // j ≤ (v.z1 - v.z0 + 1).toNat }) [1, 2, 5, 6, 8] (fun j => [(9, .t (.int .i64 (v.z0 + (j.1 : Nat))))]) (fun j => [(3, .grow 0 [.t (.bool (metT v (l.map mid) t0 j.1)), .t (.bool (metT v (l.map mid) t1 j.1)), .t (.bool false), .t (.bool false)] 4 1)]) (fun j => (v.z1 - v.z0 + 1).toNat - j.1) ⟨0, by omega⟩ (by decide) (fun _ => by rfl) ?_ fun Q1 hQ1 ⟨j, hj⟩ I1 hI1 => ?_
    · simp (decide := true) (maxSteps := 4000000) only [go_sem, Nat.reduceAdd, Nat.reduceSub, Nat.reduceMul, Nat.reduceDiv, Nat.reduceMod, Nat.reduceLT, Nat.reduceLeDiff, Nat.reduceEqDiff, Nat.reduceBEq, Nat.reduceBNe, Nat.reduceGT, Int.reduceAdd, Int.reduceSub, Int.reduceMul, Int.reduceNeg, Int.reduceLT, Int.reduceLE, Int.reduceEq, Int.reduceNe, Int.reduceBEq, Int.reduceBNe, Int.reduceToNat, Int.reduceGT, Int.reduceGE, ↓reduceIte, decide_true, decide_false, eq_self, Nat.mul_one, Nat.zero_mul, Nat.one_mul, Int.le_refl, Nat.le_refl, Int.cast_ofNat_Int, metT, Int.add_zero]
      exact ⟨rfl, rfl⟩
    · by_cases hlt : v.z0 + (j : Nat) ≤ v.z1
      · have g00 := hcan v.v0 (v.z0 + (j : Nat)) t0 (by omega) (by omega) (by omega) hlt
        have g01 := hcan v.v0 (v.z0 + (j : Nat)) t1 (by omega) (by omega) (by omega) hlt
        have g10 := hcan v.v1 (v.z0 + (j : Nat)) t0 (by omega) (by omega) (by omega) hlt
        have g11 := hcan v.v1 (v.z0 + (j : Nat)) t1 (by omega) (by omega) (by omega) hlt
        have hs0 := metT_succ v (l.map mid) t0 j
        have hs1 := metT_succ v (l.map mid) t1 j
        generalize metT v (l.map mid) t0 j = m0 at hs0 ⊢
        generalize metT v (l.map mid) t1 j = m1 at hs1 ⊢
        generalize canB v (l.map mid) v.v0 (v.z0 + (j : Nat)) t0 = b00 at g00 hs0
        generalize canB v (l.map mid) v.v0 (v.z0 + (j : Nat)) t1 = b01 at g01 hs1
        generalize canB v (l.map mid) v.v1 (v.z0 + (j : Nat)) t0 = b10 at g10 hs0
        generalize canB v (l.map mid) v.v1 (v.z0 + (j : Nat)) t1 = b11 at g11 hs1
        have hc1 : IntKind.i64.wrap (v.z0 + (j : Nat) + 1) = v.z0 + ((j + 1 : Nat) : Int) := by rw [wrap_in (by omega) (by omega)]; omega
        simp (decide := true) (maxSteps := 4000000) only [go_sem, Nat.reduceAdd, Nat.reduceSub, Nat.reduceMul, Nat.reduceDiv, Nat.reduceMod, Nat.reduceLT, Nat.reduceLeDiff, Nat.reduceEqDiff, Nat.reduceBEq, Nat.reduceBNe, Nat.reduceGT, Int.reduceAdd, Int.reduceSub, Int.reduceMul, Int.reduceNeg, Int.reduceLT, Int.reduceLE, Int.reduceEq, Int.reduceNe, Int.reduceBEq, Int.reduceBNe, Int.reduceToNat, Int.reduceGT, Int.reduceGE, ↓reduceIte, decide_true, decide_false, eq_self, Nat.mul_one, Nat.zero_mul, Nat.one_mul, Int.le_refl, Nat.le_refl, Int.cast_ofNat_Int, hlt]
        refine pwpC_loopU (A := { k : Nat // k ≤ 4 }) [1, 2, 5, 6, 8, 9] (fun k => [(10, .t (.int .i64 (k.1 : Nat)))]) (fun k => [(3, .grow 0 [.t (.bool (m0 || (decide (1 ≤ k.1) && b00) || (decide (3 ≤ k.1) && b10))), .t (.bool (m1 || (decide (2 ≤ k.1) && b01) || (decide (4 ≤ k.1) && b11))), .t (.bool false), .t (.bool false)] 4 1)]) (fun k => 4 - k.1) ⟨0, by omega⟩ (by decide) (fun _ => by rfl) ?_ fun Q2 hQ2 ⟨k, hk4⟩ I2 hI2 => ?_
        · simp (decide := true) (maxSteps := 4000000) only [go_sem, Nat.reduceAdd, Nat.reduceSub, Nat.reduceMul, Nat.reduceDiv, Nat.reduceMod, Nat.reduceLT, Nat.reduceLeDiff, Nat.reduceEqDiff, Nat.reduceBEq, Nat.reduceBNe, Nat.reduceGT, Int.reduceAdd, Int.reduceSub, Int.reduceMul, Int.reduceNeg, Int.reduceLT, Int.reduceLE, Int.reduceEq, Int.reduceNe, Int.reduceBEq, Int.reduceBNe, Int.reduceToNat, Int.reduceGT, Int.reduceGE, ↓reduceIte, decide_true, decide_false, eq_self, Nat.mul_one, Nat.zero_mul, Nat.one_mul, Int.le_refl, Nat.le_refl, Int.cast_ofNat_Int]
        · rcases (show k = 0 ∨ k = 1 ∨ k = 2 ∨ k = 3 ∨ k = 4 by omega) with rfl | rfl | rfl | rfl | rfl
          · simp (decide := true) (maxSteps := 4000000) only [go_sem, Nat.reduceAdd, Nat.reduceSub, Nat.reduceMul, Nat.reduceDiv, Nat.reduceMod, Nat.reduceLT, Nat.reduceLeDiff, Nat.reduceEqDiff, Nat.reduceBEq, Nat.reduceBNe, Nat.reduceGT, Int.reduceAdd, Int.reduceSub, Int.reduceMul, Int.reduceNeg, Int.reduceLT, Int.reduceLE, Int.reduceEq, Int.reduceNe, Int.reduceBEq, Int.reduceBNe, Int.reduceToNat, Int.reduceGT, Int.reduceGE, ↓reduceIte, decide_true, decide_false, eq_self, Nat.mul_one, Nat.zero_mul, Nat.one_mul, Int.le_refl, Nat.le_refl, Int.cast_ofNat_Int, g00, g01, g10, g11, hl, tm0, tm1, tm2, tm3]
            refine hI2 _ ⟨1, by omega⟩ (by simp) ?_
            simp (decide := true) (maxSteps := 4000000) only [go_sem, Nat.reduceAdd, Nat.reduceSub, Nat.reduceMul, Nat.reduceDiv, Nat.reduceMod, Nat.reduceLT, Nat.reduceLeDiff, Nat.reduceEqDiff, Nat.reduceBEq, Nat.reduceBNe, Nat.reduceGT, Int.reduceAdd, Int.reduceSub, Int.reduceMul, Int.reduceNeg, Int.reduceLT, Int.reduceLE, Int.reduceEq, Int.reduceNe, Int.reduceBEq, Int.reduceBNe, Int.reduceToNat, Int.reduceGT, Int.reduceGE, ↓reduceIte, decide_true, decide_false, eq_self, Nat.mul_one, Nat.zero_mul, Nat.one_mul, Int.le_refl, Nat.le_refl, Int.cast_ofNat_Int]
            try simp
            cases m0 <;> cases m1 <;> cases b00 <;> cases b01 <;> cases b10 <;> cases b11 <;> rfl
          · simp (decide := true) (maxSteps := 4000000) only [go_sem, Nat.reduceAdd, Nat.reduceSub, Nat.reduceMul, Nat.reduceDiv, Nat.reduceMod, Nat.reduceLT, Nat.reduceLeDiff, Nat.reduceEqDiff, Nat.reduceBEq, Nat.reduceBNe, Nat.reduceGT, Int.reduceAdd, Int.reduceSub, Int.reduceMul, Int.reduceNeg, Int.reduceLT, Int.reduceLE, Int.reduceEq, Int.reduceNe, Int.reduceBEq, Int.reduceBNe, Int.reduceToNat, Int.reduceGT, Int.reduceGE, ↓reduceIte, decide_true, decide_false, eq_self, Nat.mul_one, Nat.zero_mul, Nat.one_mul, Int.le_refl, Nat.le_refl, Int.cast_ofNat_Int, g00, g01, g10, g11, hl, tm0, tm1, tm2, tm3]
            refine hI2 _ ⟨2, by omega⟩ (by simp) ?_
            simp (decide := true) (maxSteps := 4000000) only [go_sem, Nat.reduceAdd, Nat.reduceSub, Nat.reduceMul, Nat.reduceDiv, Nat.reduceMod, Nat.reduceLT, Nat.reduceLeDiff, Nat.reduceEqDiff, Nat.reduceBEq, Nat.reduceBNe, Nat.reduceGT, Int.reduceAdd, Int.reduceSub, Int.reduceMul, Int.reduceNeg, Int.reduceLT, Int.reduceLE, Int.reduceEq, Int.reduceNe, Int.reduceBEq, Int.reduceBNe, Int.reduceToNat, Int.reduceGT, Int.reduceGE, ↓reduceIte, decide_true, decide_false, eq_self, Nat.mul_one, Nat.zero_mul, Nat.one_mul, Int.le_refl, Nat.le_refl, Int.cast_ofNat_Int]
            try simp
            cases m0 <;> cases m1 <;> cases b00 <;> cases b01 <;> cases b10 <;> cases b11 <;> rfl
          · simp (decide := true) (maxSteps := 4000000) only [go_sem, Nat.reduceAdd, Nat.reduceSub, Nat.reduceMul, Nat.reduceDiv, Nat.reduceMod, Nat.reduceLT, Nat.reduceLeDiff, Nat.reduceEqDiff, Nat.reduceBEq, Nat.reduceBNe, Nat.reduceGT, Int.reduceAdd, Int.reduceSub, Int.reduceMul, Int.reduceNeg, Int.reduceLT, Int.reduceLE, Int.reduceEq, Int.reduceNe, Int.reduceBEq, Int.reduceBNe, Int.reduceToNat, Int.reduceGT, Int.reduceGE, ↓reduceIte, decide_true, decide_false, eq_self, Nat.mul_one, Nat.zero_mul, Nat.one_mul, Int.le_refl, Nat.le_refl, Int.cast_ofNat_Int, g00, g01, g10, g11, hl, tm0, tm1, tm2, tm3]
            refine hI2 _ ⟨3, by omega⟩ (by simp) ?_
            simp (decide := true) (maxSteps := 4000000) only [go_sem, Nat.reduceAdd, Nat.reduceSub, Nat.reduceMul, Nat.reduceDiv, Nat.reduceMod, Nat.reduceLT, Nat.reduceLeDiff, Nat.reduceEqDiff, Nat.reduceBEq, Nat.reduceBNe, Nat.reduceGT, Int.reduceAdd, Int.reduceSub, Int.reduceMul, Int.reduceNeg, Int.reduceLT, Int.reduceLE, Int.reduceEq, Int.reduceNe, Int.reduceBEq, Int.reduceBNe, Int.reduceToNat, Int.reduceGT, Int.reduceGE, ↓reduceIte, decide_true, decide_false, eq_self, Nat.mul_one, Nat.zero_mul, Nat.one_mul, Int.le_refl, Nat.le_refl, Int.cast_ofNat_Int]
            try simp
            cases m0 <;> cases m1 <;> cases b00 <;> cases b01 <;> cases b10 <;> cases b11 <;> rfl
          · simp (decide := true) (maxSteps := 4000000) only [go_sem, Nat.reduceAdd, Nat.reduceSub, Nat.reduceMul, Nat.reduceDiv, Nat.reduceMod, Nat.reduceLT, Nat.reduceLeDiff, Nat.reduceEqDiff, Nat.reduceBEq, Nat.reduceBNe, Nat.reduceGT, Int.reduceAdd, Int.reduceSub, Int.reduceMul, Int.reduceNeg, Int.reduceLT, Int.reduceLE, Int.reduceEq, Int.reduceNe, Int.reduceBEq, Int.reduceBNe, Int.reduceToNat, Int.reduceGT, Int.reduceGE, ↓reduceIte, decide_true, decide_false, eq_self, Nat.mul_one, Nat.zero_mul, Nat.one_mul, Int.le_refl, Nat.le_refl, Int.cast_ofNat_Int, g00, g01, g10, g11, hl, tm0, tm1, tm2, tm3]
            refine hI2 _ ⟨4, by omega⟩ (by simp) ?_
            simp (decide := true) (maxSteps := 4000000) only [go_sem, Nat.reduceAdd, Nat.reduceSub, Nat.reduceMul, Nat.reduceDiv, Nat.reduceMod, Nat.reduceLT, Nat.reduceLeDiff, Nat.reduceEqDiff, Nat.reduceBEq, Nat.reduceBNe, Nat.reduceGT, Int.reduceAdd, Int.reduceSub, Int.reduceMul, Int.reduceNeg, Int.reduceLT, Int.reduceLE, Int.reduceEq, Int.reduceNe, Int.reduceBEq, Int.reduceBNe, Int.reduceToNat, Int.reduceGT, Int.reduceGE, ↓reduceIte, decide_true, decide_false, eq_self, Nat.mul_one, Nat.zero_mul, Nat.one_mul, Int.le_refl, Nat.le_refl, Int.cast_ofNat_Int]
            try simp
            cases m0 <;> cases m1 <;> cases b00 <;> cases b01 <;> cases b10 <;> cases b11 <;> rfl
          · simp (decide := true) (maxSteps := 4000000) only [go_sem, Nat.reduceAdd, Nat.reduceSub, Nat.reduceMul, Nat.reduceDiv, Nat.reduceMod, Nat.reduceLT, Nat.reduceLeDiff, Nat.reduceEqDiff, Nat.reduceBEq, Nat.reduceBNe, Nat.reduceGT, Int.reduceAdd, Int.reduceSub, Int.reduceMul, Int.reduceNeg, Int.reduceLT, Int.reduceLE, Int.reduceEq, Int.reduceNe, Int.reduceBEq, Int.reduceBNe, Int.reduceToNat, Int.reduceGT, Int.reduceGE, ↓reduceIte, decide_true, decide_false, eq_self, Nat.mul_one, Nat.zero_mul, Nat.one_mul, Int.le_refl, Nat.le_refl, Int.cast_ofNat_Int]
            refine hQ2 _ _ ?_
            simp (decide := true) (maxSteps := 4000000) only [go_sem, Nat.reduceAdd, Nat.reduceSub, Nat.reduceMul, Nat.reduceDiv, Nat.reduceMod, Nat.reduceLT, Nat.reduceLeDiff, Nat.reduceEqDiff, Nat.reduceBEq, Nat.reduceBNe, Nat.reduceGT, Int.reduceAdd, Int.reduceSub, Int.reduceMul, Int.reduceNeg, Int.reduceLT, Int.reduceLE, Int.reduceEq, Int.reduceNe, Int.reduceBEq, Int.reduceBNe, Int.reduceToNat, Int.reduceGT, Int.reduceGE, ↓reduceIte, decide_true, decide_false, eq_self, Nat.mul_one, Nat.zero_mul, Nat.one_mul, Int.le_refl, Nat.le_refl, Int.cast_ofNat_Int]
            refine hI1 _ ⟨j + 1, by omega⟩ (by simp only; omega) ?_
            simp (decide := true) (maxSteps := 4000000) only [go_sem, Nat.reduceAdd, Nat.reduceSub, Nat.reduceMul, Nat.reduceDiv, Nat.reduceMod, Nat.reduceLT, Nat.reduceLeDiff, Nat.reduceEqDiff, Nat.reduceBEq, Nat.reduceBNe, Nat.reduceGT, Int.reduceAdd, Int.reduceSub, Int.reduceMul, Int.reduceNeg, Int.reduceLT, Int.reduceLE, Int.reduceEq, Int.reduceNe, Int.reduceBEq, Int.reduceBNe, Int.reduceToNat, Int.reduceGT, Int.reduceGE, ↓reduceIte, decide_true, decide_false, eq_self, Nat.mul_one, Nat.zero_mul, Nat.one_mul, Int.le_refl, Nat.le_refl, Int.cast_ofNat_Int, hc1, hs0, hs1, Bool.or_assoc]
      · have hje : j = (v.z1 - v.z0 + 1).toNat := by omega
        subst hje
        simp (decide := true) (maxSteps := 4000000) only [go_sem, Nat.reduceAdd, Nat.reduceSub, Nat.reduceMul, Nat.reduceDiv, Nat.reduceMod, Nat.reduceLT, Nat.reduceLeDiff, Nat.reduceEqDiff, Nat.reduceBEq, Nat.reduceBNe, Nat.reduceGT, Int.reduceAdd, Int.reduceSub, Int.reduceMul, Int.reduceNeg, Int.reduceLT, Int.reduceLE, Int.reduceEq, Int.reduceNe, Int.reduceBEq, Int.reduceBNe, Int.reduceToNat, Int.reduceGT, Int.reduceGE, ↓reduceIte, decide_true, decide_false, eq_self, Nat.mul_one, Nat.zero_mul, Nat.one_mul, Int.le_refl, Nat.le_refl, Int.cast_ofNat_Int, hlt]
        refine hQ1 _ _ ?_
        simp (decide := true) (maxSteps := 4000000) only [go_sem, Nat.reduceAdd, Nat.reduceSub, Nat.reduceMul, Nat.reduceDiv, Nat.reduceMod, Nat.reduceLT, Nat.reduceLeDiff, Nat.reduceEqDiff, Nat.reduceBEq, Nat.reduceBNe, Nat.reduceGT, Int.reduceAdd, Int.reduceSub, Int.reduceMul, Int.reduceNeg, Int.reduceLT, Int.reduceLE, Int.reduceEq, Int.reduceNe, Int.reduceBEq, Int.reduceBNe, Int.reduceToNat, Int.reduceGT, Int.reduceGE, ↓reduceIte, decide_true, decide_false, eq_self, Nat.mul_one, Nat.zero_mul, Nat.one_mul, Int.le_refl, Nat.le_refl, Int.cast_ofNat_Int, q0, q1]
        refine pwpC_loopU (A := { i : Nat // i ≤ 817 }) [1, 2, 5, 6, 8] (fun i => [(15, .t (.int .i64 ((i.1 : Nat) - 408 : Int)))]) (fun i => [(3, .grow 0 [.t (.bool true), .t (.bool true), .t (.bool (metZ v (l.map mid) z0 i.1)), .t (.bool (metZ v (l.map mid) z1 i.1))] 4 1)]) (fun i => 817 - i.1) ⟨0, by omega⟩ (by decide) (fun _ => by rfl) ?_ fun Q3 hQ3 ⟨i, hi8⟩ I3 hI3 => ?_
        · simp (decide := true) (maxSteps := 4000000) only [go_sem, Nat.reduceAdd, Nat.reduceSub, Nat.reduceMul, Nat.reduceDiv, Nat.reduceMod, Nat.reduceLT, Nat.reduceLeDiff, Nat.reduceEqDiff, Nat.reduceBEq, Nat.reduceBNe, Nat.reduceGT, Int.reduceAdd, Int.reduceSub, Int.reduceMul, Int.reduceNeg, Int.reduceLT, Int.reduceLE, Int.reduceEq, Int.reduceNe, Int.reduceBEq, Int.reduceBNe, Int.reduceToNat, Int.reduceGT, Int.reduceGE, ↓reduceIte, decide_true, decide_false, eq_self, Nat.mul_one, Nat.zero_mul, Nat.one_mul, Int.le_refl, Nat.le_refl, Int.cast_ofNat_Int, metZ]
          first | done | exact ⟨rfl, rfl⟩ | skip
        · by_cases hlt3 : ((i : Nat) - 408 : Int) ≤ 408
          · have p1 := mulB (a := ((i : Nat) - 408 : Int)) (b := v.v0) (by omega) (by omega)
            have w1 := wrap_in (n := ((i : Nat) - 408 : Int) * v.v0) (by omega) (by omega)
            have g0 := hcan v.v0 z0 (((i : Nat) - 408 : Int) * v.v0) (by omega) (by omega) hz0.1.1 hz0.1.2
            have g1 := hcan v.v0 z1 (((i : Nat) - 408 : Int) * v.v0) (by omega) (by omega) hz1.1.1 hz1.1.2
            have hs0 := metZ_succ v (l.map mid) z0 i
            have hs1 := metZ_succ v (l.map mid) z1 i
            have hc1 : IntKind.i64.wrap ((i : Nat) - 408 + 1 : Int) = ((i + 1 : Nat) : Int) - 408 := by rw [wrap_in (by omega) (by omega)]; omega
            simp (decide := true) (maxSteps := 4000000) only [go_sem, Nat.reduceAdd, Nat.reduceSub, Nat.reduceMul, Nat.reduceDiv, Nat.reduceMod, Nat.reduceLT, Nat.reduceLeDiff, Nat.reduceEqDiff, Nat.reduceBEq, Nat.reduceBNe, Nat.reduceGT, Int.reduceAdd, Int.reduceSub, Int.reduceMul, Int.reduceNeg, Int.reduceLT, Int.reduceLE, Int.reduceEq, Int.reduceNe, Int.reduceBEq, Int.reduceBNe, Int.reduceToNat, Int.reduceGT, Int.reduceGE, ↓reduceIte, decide_true, decide_false, eq_self, Nat.mul_one, Nat.zero_mul, Nat.one_mul, Int.le_refl, Nat.le_refl, Int.cast_ofNat_Int, hlt3, w1, g0, g1, hl]
            refine hI3 _ ⟨i + 1, by omega⟩ (by simp only; omega) ?_
            simp (decide := true) (maxSteps := 4000000) only [go_sem, Nat.reduceAdd, Nat.reduceSub, Nat.reduceMul, Nat.reduceDiv, Nat.reduceMod, Nat.reduceLT, Nat.reduceLeDiff, Nat.reduceEqDiff, Nat.reduceBEq, Nat.reduceBNe, Nat.reduceGT, Int.reduceAdd, Int.reduceSub, Int.reduceMul, Int.reduceNeg, Int.reduceLT, Int.reduceLE, Int.reduceEq, Int.reduceNe, Int.reduceBEq, Int.reduceBNe, Int.reduceToNat, Int.reduceGT, Int.reduceGE, ↓reduceIte, decide_true, decide_false, eq_self, Nat.mul_one, Nat.zero_mul, Nat.one_mul, Int.le_refl, Nat.le_refl, Int.cast_ofNat_Int, hc1, hs0, hs1, orNot]
          · have hie : i = 817 := by omega
            subst hie
            simp (decide := true) (maxSteps := 4000000) only [go_sem, Nat.reduceAdd, Nat.reduceSub, Nat.reduceMul, Nat.reduceDiv, Nat.reduceMod, Nat.reduceLT, Nat.reduceLeDiff, Nat.reduceEqDiff, Nat.reduceBEq, Nat.reduceBNe, Nat.reduceGT, Int.reduceAdd, Int.reduceSub, Int.reduceMul, Int.reduceNeg, Int.reduceLT, Int.reduceLE, Int.reduceEq, Int.reduceNe, Int.reduceBEq, Int.reduceBNe, Int.reduceToNat, Int.reduceGT, Int.reduceGE, ↓reduceIte, decide_true, decide_false, eq_self, Nat.mul_one, Nat.zero_mul, Nat.one_mul, Int.le_refl, Nat.le_refl, Int.cast_ofNat_Int, hlt3]
            refine hQ3 _ _ ?_
            simp (decide := true) (maxSteps := 4000000) only [go_sem, Nat.reduceAdd, Nat.reduceSub, Nat.reduceMul, Nat.reduceDiv, Nat.reduceMod, Nat.reduceLT, Nat.reduceLeDiff, Nat.reduceEqDiff, Nat.reduceBEq, Nat.reduceBNe, Nat.reduceGT, Int.reduceAdd, Int.reduceSub, Int.reduceMul, Int.reduceNeg, Int.reduceLT, Int.reduceLE, Int.reduceEq, Int.reduceNe, Int.reduceBEq, Int.reduceBNe, Int.reduceToNat, Int.reduceGT, Int.reduceGE, ↓reduceIte, decide_true, decide_false, eq_self, Nat.mul_one, Nat.zero_mul, Nat.one_mul, Int.le_refl, Nat.le_refl, Int.cast_ofNat_Int, q2, q3]
  · have h0' : (te != 0) = true := by simpa using h0
    obtain ⟨⟨rfl, rfl⟩, rfl, rfl⟩ := hte.resolve_left h0
    rcases hs with ⟨rfl, rfl⟩ | ⟨full, rfl⟩ <;> simp (decide := true) (maxSteps := 4000000) only [go_sem, Nat.reduceAdd, Nat.reduceSub, Nat.reduceMul, Nat.reduceDiv, Nat.reduceMod, Nat.reduceLT, Nat.reduceLeDiff, Nat.reduceEqDiff, Nat.reduceBEq, Nat.reduceBNe, Nat.reduceGT, Int.reduceAdd, Int.reduceSub, Int.reduceMul, Int.reduceNeg, Int.reduceLT, Int.reduceLE, Int.reduceEq, Int.reduceNe, Int.reduceBEq, Int.reduceBNe, Int.reduceToNat, Int.reduceGT, Int.reduceGE, ↓reduceIte, decide_true, decide_false, eq_self, Nat.mul_one, Nat.zero_mul, Nat.one_mul, Int.le_refl, Nat.le_refl, Int.cast_ofNat_Int, Try.f9, Vial.t, Vial.cs, unRds, hT, hl, h0', TE.t, Span.t, Span.cs, List.length_nil, beq_self_eq_true]
end Go.Proofs.Ytgofljmnlfnlnaa

/- Part Mk. -/
namespace Go.Oc
open Go Go.Pm Go.Proofs.Ytgofljmnlfnlnaa
theorem within_snoc (v : Vial) (l : List Mk) (m : Mk) (z : Int) : (withinS v.wr l z).lo ≤ (withinS v.wr (l ++ [m]) z).lo ∧ (withinS v.wr (l ++ [m]) z).hi ≤ (withinS v.wr l z).hi := by
  have e : withinS v.wr (l ++ [m]) z = inS v.wr z (withinS v.wr l z) m := by unfold withinS; rw [List.foldl_append]; rfl
  rw [e]; simp only [inS]; omega
theorem feas_sub {v : Vial} {l : List Mk} {m : Mk} {z : Int} (h : feas v (l ++ [m]) z) : feas v l z := by
  have := within_snoc v l m z
  have h2 := h.2
  exact ⟨h.1, by omega⟩
theorem leastP_mono {v : Vial} (hv : v.ok = true) {a b : Int} (h : a ≤ b) : leastP v a ≤ leastP v b := by
  have hv' := Vial.ok_iff.1 hv
  have h1 := Int.mul_le_mul_of_nonneg_right (c := v.v0) h (by omega)
  have h2 := Int.mul_le_mul_of_nonneg_right (c := v.v1) h (by omega)
  unfold leastP; omega
theorem mostP_mono {v : Vial} (hv : v.ok = true) {a b : Int} (h : a ≤ b) : mostP v a ≤ mostP v b := by
  have hv' := Vial.ok_iff.1 hv
  have h1 := Int.mul_le_mul_of_nonneg_right (c := v.v0) h (by omega)
  have h2 := Int.mul_le_mul_of_nonneg_right (c := v.v1) h (by omega)
  unfold mostP; omega
theorem tilts_sub {v : Vial} (hv : v.ok = true) {l : List Mk} {m : Mk} (h : (tilts v (l ++ [m])).is = true) :
    (tilts v l).is = true ∧ (tilts v l).tilt.lo ≤ (tilts v (l ++ [m])).tilt.lo ∧ (tilts v (l ++ [m])).tilt.hi ≤ (tilts v l).tilt.hi ∧ (tilts v l).zero.lo ≤ (tilts v (l ++ [m])).zero.lo ∧ (tilts v (l ++ [m])).zero.hi ≤ (tilts v l).zero.hi := by
  obtain ⟨⟨z1, f1, e1⟩, ⟨z2, f2, e2⟩, f3, f4⟩ := tilts_at h
  refine ⟨tilts_is.2 ⟨z1, feas_sub f1⟩, ?_, ?_, (tilts_zero (feas_sub f3)).1, (tilts_zero (feas_sub f4)).2⟩
  · have a := tilts_lo (feas_sub f1)
    have b := leastP_mono hv (within_snoc v l m z1).1
    omega
  · have a := tilts_hi (feas_sub f2)
    have b := mostP_mono hv (within_snoc v l m z2).2
    omega
theorem gain_le {v : Vial} (hv : v.ok = true) {l : List Mk} {tu : Bool} : ∀ {k : Nat} {n : Int}, gainTo v l tu k = some n → n ≤ (tilts v l).tilt.hi - (tilts v l).tilt.lo
  | 0, n, h => by cases h
  | k + 1, n, h => by
    rw [gainTo_succ] at h
    cases hi : (tilts v (l ++ [⟨(k : Int), tu⟩])).is with
    | false => rw [gI_skip hi] at h; exact gain_le hv h
    | true =>
      obtain ⟨_, a, b, _⟩ := tilts_sub hv hi
      unfold gainStep wideT at h
      rw [if_pos hi] at h
      cases hg : gainTo v l tu k with
      | none => rw [hg] at h; simp only [Option.some.injEq] at h; omega
      | some n' => have := gain_le hv hg; rw [hg] at h; simp only [Option.some.injEq] at h; omega
theorem gain_ge {v : Vial} {l : List Mk} {tu : Bool} : ∀ {k j : Nat}, j < k → (tilts v (l ++ [⟨(j : Int), tu⟩])).is = true → ∃ n, gainTo v l tu k = some n ∧ (tilts v (l ++ [⟨(j : Int), tu⟩])).tilt.hi - (tilts v (l ++ [⟨(j : Int), tu⟩])).tilt.lo ≤ n
  | k + 1, j, h, hj => by
    rw [gainTo_succ]
    unfold gainStep wideT
    by_cases hjk : j = k
    · subst hjk
      rw [if_pos hj]
      refine ⟨_, rfl, ?_⟩
      split <;> omega
    · obtain ⟨n, h1, h2⟩ := gain_ge (k := k) (by omega) hj
      split
      · rw [h1]
        exact ⟨_, rfl, by simp only; omega⟩
      · exact ⟨n, h1, h2⟩
theorem asked_30 {v : Vial} {l : List Rd} (h : asked v l = 30) : v.ok = false := by
  unfold asked at h
  cases hv : v.ok with
  | false => rfl
  | true => rw [hv] at h; cases hr : rdsOk v l <;> simp [hr] at h
theorem tilt_30 {v : Vial} {l r : List Rd} (h : (tiltR v l).e = 30) : (tiltR v r).e = 30 := by
  have hv : v.ok = false := by
    unfold tiltR at h
    split at h
    · split at h <;> simp at h
    · exact asked_30 h
  unfold tiltR asked
  simp [hv]
theorem tilt_yes {v : Vial} {l : List Rd} (h : (tiltR v l).e = 0) : v.ok = true ∧ rdsOk v l = true ∧ (tilts v (l.map mid)).is = true ∧ (tiltR v l).tilt = (tilts v (l.map mid)).tilt ∧ (tiltR v l).zero = (tilts v (l.map mid)).zero := by
  unfold tiltR at h ⊢
  by_cases hk : asked v l = 0
  · rw [if_pos hk] at h ⊢
    obtain ⟨hv, hr⟩ := asked_zero hk
    cases hi : (tilts v (l.map mid)).is with
    | false => rw [hi] at h; simp at h
    | true => exact ⟨hv, hr, rfl, rfl, rfl⟩
  · rw [if_neg hk] at h; exact absurd h hk
/-- With a reading more, plainly. -/
theorem narrower {v : Vial} {l : List Rd} {x : Rd} (ha : (tiltR v l).e = 0) (hb : (tiltR v (l ++ [x])).e = 0) :
    ((tiltR v l).tilt.lo ≤ (tiltR v (l ++ [x])).tilt.lo ∧ (tiltR v (l ++ [x])).tilt.hi ≤ (tiltR v l).tilt.hi ∧ (tiltR v l).zero.lo ≤ (tiltR v (l ++ [x])).zero.lo ∧ (tiltR v (l ++ [x])).zero.hi ≤ (tiltR v l).zero.hi) ∧
    ((-5000000 ≤ (tiltR v l).tilt.lo ∧ (tiltR v l).tilt.hi ≤ 5000000) ∧ (tiltR v (l ++ [x])).tilt.lo ≤ (tiltR v (l ++ [x])).tilt.hi) ∧
    (nextP v l).2.2 = 0 ∧ (nextP v l).2.1 ≤ (tiltR v l).tilt.hi - (tiltR v l).tilt.lo ∧ (x.turned = (nextP v l).1 → (tiltR v (l ++ [x])).tilt.hi - (tiltR v (l ++ [x])).tilt.lo ≤ (nextP v l).2.1) := by
  obtain ⟨hv, hr, hi, e1, e2⟩ := tilt_yes ha
  obtain ⟨_, hr', hi', e3, e4⟩ := tilt_yes hb
  rw [e1, e2, e3, e4]
  rw [List.map_append, List.map_cons, List.map_nil] at hi' ⊢
  obtain ⟨_, a, b, c, d⟩ := tilts_sub hv hi'
  have bd := tilts_bound hv (mksOk_mid hv hr)
  have hle := tilts_le hv hi'
  have h8 := rdsOk_len hr'
  rw [List.length_append] at h8
  simp only [List.length_cons, List.length_nil] at h8
  have hk : asked v l = 0 := by unfold asked; simp [hv, hr]
  have hxr := hr'
  simp only [rdsOk, Bool.and_eq_true, List.all_eq_true] at hxr
  have hbx := hxr.2 x (by simp)
  simp only [rdOk, inB, Bool.and_eq_true, decide_eq_true_eq] at hbx
  have em : mid x = ⟨((x.left + x.right).toNat : Int), x.turned⟩ := by
    have : (((x.left + x.right).toNat : Nat) : Int) = x.left + x.right := Int.toNat_of_nonneg (by omega)
    rw [this]; rfl
  have hi2 := hi'
  rw [em] at hi2
  obtain ⟨n, g1, g2⟩ := gain_ge (k := (2 * v.marks + 1).toNat) (by omega) hi2
  rw [← em] at g2
  refine ⟨⟨a, b, c, d⟩, ⟨⟨bd.1, bd.2.2.2⟩, hle⟩, ?_⟩
  have hgo : gainOf v (l.map mid) x.turned = some n := g1
  unfold nextP
  rw [if_pos hk, if_neg (by omega), if_pos hi]
  cases hd : gainOf v (l.map mid) false with
  | none =>
    cases ht : gainOf v (l.map mid) true with
    | none => exact (gain_one hv hr hi hd ht).elim
    | some t =>
      refine ⟨rfl, gain_le hv (show gainTo v _ true _ = some t from ht), fun hx => ?_⟩
      simp only at hx ⊢
      rw [hx, ht] at hgo; cases hgo; exact g2
  | some d =>
    have ld := gain_le hv (show gainTo v (l.map mid) false _ = some d from hd)
    cases ht : gainOf v (l.map mid) true with
    | none =>
      refine ⟨rfl, ld, fun hx => ?_⟩
      simp only at hx ⊢
      rw [hx, hd] at hgo; cases hgo; exact g2
    | some t =>
      have lt := gain_le hv (show gainTo v (l.map mid) true _ = some t from ht)
      simp only
      split
      · refine ⟨rfl, lt, fun hx => ?_⟩
        simp only at hx ⊢
        rw [hx, ht] at hgo; cases hgo; exact g2
      · refine ⟨rfl, ld, fun hx => ?_⟩
        simp only at hx ⊢
        rw [hx, hd] at hgo; cases hgo; exact g2
theorem unRds_snoc (l : List Rd) (x : Rd) : unRds (l.flatMap Rd.cs ++ [.int .i64 x.left, .int .i64 x.right, .bool x.turned]) = some (l ++ [x]) := by
  have := unRds_eq (l ++ [x])
  rw [List.flatMap_append] at this
  exact this
end Go.Oc
namespace Go.Proofs.Ytgofljmnlfnlnaa
open Go.RowKit Go.Pm Go.Oc
set_option maxRecDepth 100000
set_option linter.unusedVariables false
set_option maxHeartbeats 4000000

theorem unRds_one (x : Rd) : unRds [.int .i64 x.left, .int .i64 x.right, .bool x.turned] = some [x] := rfl
theorem LevelNarrower_c (v : Vial) {l : List Rd} {s : TV} (hs : IsRow Rd.cs s l) (hl : l.length ≤ 5864062014804) (x : Rd) : PCalls Try.prog 12 [v.t, s, .agg x.cs] (.bool true) := by
  have key := narrower (v := v) (l := l) (x := x)
  have k30 := tilt_30 (v := v) (l := l ++ [x]) (r := l)
  obtain ⟨A, hA⟩ : ∃ A, tiltR v l = A := ⟨_, rfl⟩
  obtain ⟨B, hB⟩ : ∃ B, tiltR v (l ++ [x]) = B := ⟨_, rfl⟩
  obtain ⟨N, hN⟩ : ∃ N, nextP v l = N := ⟨_, rfl⟩
  rw [hA, hB, hN] at key
  rw [hA, hB] at k30
  obtain ⟨⟨t0, t1⟩, ⟨z0, z1⟩, ae⟩ := A
  obtain ⟨⟨u0, u1⟩, ⟨y0, y1⟩, be⟩ := B
  obtain ⟨nt, ng, ne⟩ := N
  simp only at key k30
  have hl1 : l.length ≤ 5864062014806 := by omega
  have hl2 : l.length + 1 ≤ 5864062014806 := by omega
  have hfl : (List.flatMap Rd.cs l).length = l.length * 3 := flat_len Rd.cs (n := 3) (fun _ => rfl) l
  have htk : List.take (l.length * 3) (List.flatMap Rd.cs l) = List.flatMap Rd.cs l := List.take_of_length_le (by omega)
  have hroom : (l.length + 1) * 24 ≤ 140737488355328 := by omega
  have hroom2 : l.length * 24 ≤ 140737488355328 := by omega
  have hxl : (l ++ [x]).length = l.length + 1 := by simp
  have hus := unRds_snoc l x
  have huo := unRds_one x
  have hun : unRds [] = some [] := rfl
  refine pcalls_by Try.mixes spN2_ok (fn := Try.f12) Try.func12 rfl (by kernel_rfl) (by show 3 ≤ _; decide) ?_
  by_cases h0 : ae = 0 ∧ be = 0
  · obtain ⟨rfl, rfl⟩ := h0
    obtain ⟨⟨a, b, c, d⟩, ⟨⟨b1, b2⟩, b3⟩, rfl, g1, g2⟩ := key rfl rfl
    have a' : ¬ u0 < t0 := by omega
    have b' : ¬ u1 > t1 := by omega
    have c' : ¬ y0 < z0 := by omega
    have d' : ¬ y1 > z1 := by omega
    have w1 : IntKind.i64.wrap (t1 - t0) = t1 - t0 := wrap_in (by omega) (by omega)
    have w2 : IntKind.i64.wrap (u1 - u0) = u1 - u0 := wrap_in (by omega) (by omega)
    by_cases hx : x.turned = nt
    · have g3 := g2 hx
      have hx' : (x.turned == nt) = true := by simp [hx]
      rcases hs with ⟨rfl, rfl⟩ | ⟨full, rfl⟩
      · rw [List.nil_append] at hB hxl hus
        simp (decide := true) (maxSteps := 4000000) only [go_sem, Nat.reduceAdd, Nat.reduceSub, Nat.reduceMul, Nat.reduceDiv, Nat.reduceMod, Nat.reduceLT, Nat.reduceLeDiff, Nat.reduceEqDiff, Nat.reduceBEq, Nat.reduceBNe, Nat.reduceGT, Int.reduceAdd, Int.reduceSub, Int.reduceMul, Int.reduceNeg, Int.reduceLT, Int.reduceLE, Int.reduceEq, Int.reduceNe, Int.reduceBEq, Int.reduceBNe, Int.reduceToNat, Int.reduceGT, Int.reduceGE, ↓reduceIte, decide_true, decide_false, eq_self, Nat.mul_one, Nat.zero_mul, Nat.one_mul, Int.le_refl, Nat.le_refl, Int.cast_ofNat_Int, Try.f12, Vial.t, Vial.cs, Rd.cs, hA, hB, hN, hl1, hl2, hfl, htk, hroom, hroom2, hxl, hus, huo, hun, allO_t, TE.t, Span.t, Span.cs, a', b', c', d', w1, w2, g1, g3, hx', List.length_nil]
      · by_cases hn : l.length = 0
        · have hnl : l = [] := List.length_eq_zero_iff.1 hn
          subst hnl
          rw [List.nil_append] at hB hxl hus
          simp (decide := true) (maxSteps := 4000000) only [go_sem, Nat.reduceAdd, Nat.reduceSub, Nat.reduceMul, Nat.reduceDiv, Nat.reduceMod, Nat.reduceLT, Nat.reduceLeDiff, Nat.reduceEqDiff, Nat.reduceBEq, Nat.reduceBNe, Nat.reduceGT, Int.reduceAdd, Int.reduceSub, Int.reduceMul, Int.reduceNeg, Int.reduceLT, Int.reduceLE, Int.reduceEq, Int.reduceNe, Int.reduceBEq, Int.reduceBNe, Int.reduceToNat, Int.reduceGT, Int.reduceGE, ↓reduceIte, decide_true, decide_false, eq_self, Nat.mul_one, Nat.zero_mul, Nat.one_mul, Int.le_refl, Nat.le_refl, Int.cast_ofNat_Int, Try.f12, Vial.t, Vial.cs, Rd.cs, hA, hB, hN, hl1, hl2, hfl, htk, hroom, hroom2, hxl, hus, huo, hun, allO_t, TE.t, Span.t, Span.cs, a', b', c', d', w1, w2, g1, g3, hx', List.length_nil]
        · simp (decide := true) (maxSteps := 4000000) only [go_sem, Nat.reduceAdd, Nat.reduceSub, Nat.reduceMul, Nat.reduceDiv, Nat.reduceMod, Nat.reduceLT, Nat.reduceLeDiff, Nat.reduceEqDiff, Nat.reduceBEq, Nat.reduceBNe, Nat.reduceGT, Int.reduceAdd, Int.reduceSub, Int.reduceMul, Int.reduceNeg, Int.reduceLT, Int.reduceLE, Int.reduceEq, Int.reduceNe, Int.reduceBEq, Int.reduceBNe, Int.reduceToNat, Int.reduceGT, Int.reduceGE, ↓reduceIte, decide_true, decide_false, eq_self, Nat.mul_one, Nat.zero_mul, Nat.one_mul, Int.le_refl, Nat.le_refl, Int.cast_ofNat_Int, Try.f12, Vial.t, Vial.cs, Rd.cs, hA, hB, hN, hl1, hl2, hfl, htk, hroom, hroom2, hxl, hus, huo, hun, allO_t, TE.t, Span.t, Span.cs, a', b', c', d', w1, w2, g1, g3, hx', hn]
    · have hx' : (x.turned == nt) = false := by simpa using hx
      rcases hs with ⟨rfl, rfl⟩ | ⟨full, rfl⟩
      · rw [List.nil_append] at hB hxl hus
        simp (decide := true) (maxSteps := 4000000) only [go_sem, Nat.reduceAdd, Nat.reduceSub, Nat.reduceMul, Nat.reduceDiv, Nat.reduceMod, Nat.reduceLT, Nat.reduceLeDiff, Nat.reduceEqDiff, Nat.reduceBEq, Nat.reduceBNe, Nat.reduceGT, Int.reduceAdd, Int.reduceSub, Int.reduceMul, Int.reduceNeg, Int.reduceLT, Int.reduceLE, Int.reduceEq, Int.reduceNe, Int.reduceBEq, Int.reduceBNe, Int.reduceToNat, Int.reduceGT, Int.reduceGE, ↓reduceIte, decide_true, decide_false, eq_self, Nat.mul_one, Nat.zero_mul, Nat.one_mul, Int.le_refl, Nat.le_refl, Int.cast_ofNat_Int, Try.f12, Vial.t, Vial.cs, Rd.cs, hA, hB, hN, hl1, hl2, hfl, htk, hroom, hroom2, hxl, hus, huo, hun, allO_t, TE.t, Span.t, Span.cs, a', b', c', d', w1, w2, g1, hx', List.length_nil]
      · by_cases hn : l.length = 0
        · have hnl : l = [] := List.length_eq_zero_iff.1 hn
          subst hnl
          rw [List.nil_append] at hB hxl hus
          simp (decide := true) (maxSteps := 4000000) only [go_sem, Nat.reduceAdd, Nat.reduceSub, Nat.reduceMul, Nat.reduceDiv, Nat.reduceMod, Nat.reduceLT, Nat.reduceLeDiff, Nat.reduceEqDiff, Nat.reduceBEq, Nat.reduceBNe, Nat.reduceGT, Int.reduceAdd, Int.reduceSub, Int.reduceMul, Int.reduceNeg, Int.reduceLT, Int.reduceLE, Int.reduceEq, Int.reduceNe, Int.reduceBEq, Int.reduceBNe, Int.reduceToNat, Int.reduceGT, Int.reduceGE, ↓reduceIte, decide_true, decide_false, eq_self, Nat.mul_one, Nat.zero_mul, Nat.one_mul, Int.le_refl, Nat.le_refl, Int.cast_ofNat_Int, Try.f12, Vial.t, Vial.cs, Rd.cs, hA, hB, hN, hl1, hl2, hfl, htk, hroom, hroom2, hxl, hus, huo, hun, allO_t, TE.t, Span.t, Span.cs, a', b', c', d', w1, w2, g1, hx', List.length_nil]
        · simp (decide := true) (maxSteps := 4000000) only [go_sem, Nat.reduceAdd, Nat.reduceSub, Nat.reduceMul, Nat.reduceDiv, Nat.reduceMod, Nat.reduceLT, Nat.reduceLeDiff, Nat.reduceEqDiff, Nat.reduceBEq, Nat.reduceBNe, Nat.reduceGT, Int.reduceAdd, Int.reduceSub, Int.reduceMul, Int.reduceNeg, Int.reduceLT, Int.reduceLE, Int.reduceEq, Int.reduceNe, Int.reduceBEq, Int.reduceBNe, Int.reduceToNat, Int.reduceGT, Int.reduceGE, ↓reduceIte, decide_true, decide_false, eq_self, Nat.mul_one, Nat.zero_mul, Nat.one_mul, Int.le_refl, Nat.le_refl, Int.cast_ofNat_Int, Try.f12, Vial.t, Vial.cs, Rd.cs, hA, hB, hN, hl1, hl2, hfl, htk, hroom, hroom2, hxl, hus, huo, hun, allO_t, TE.t, Span.t, Span.cs, a', b', c', d', w1, w2, g1, hx', hn]
  · by_cases h1 : be = 30
    · have h2 := k30 h1
      subst h1
      subst h2
      rcases hs with ⟨rfl, rfl⟩ | ⟨full, rfl⟩
      · rw [List.nil_append] at hB hxl hus
        simp (decide := true) (maxSteps := 4000000) only [go_sem, Nat.reduceAdd, Nat.reduceSub, Nat.reduceMul, Nat.reduceDiv, Nat.reduceMod, Nat.reduceLT, Nat.reduceLeDiff, Nat.reduceEqDiff, Nat.reduceBEq, Nat.reduceBNe, Nat.reduceGT, Int.reduceAdd, Int.reduceSub, Int.reduceMul, Int.reduceNeg, Int.reduceLT, Int.reduceLE, Int.reduceEq, Int.reduceNe, Int.reduceBEq, Int.reduceBNe, Int.reduceToNat, Int.reduceGT, Int.reduceGE, ↓reduceIte, decide_true, decide_false, eq_self, Nat.mul_one, Nat.zero_mul, Nat.one_mul, Int.le_refl, Nat.le_refl, Int.cast_ofNat_Int, Try.f12, Vial.t, Vial.cs, Rd.cs, hA, hB, hN, hl1, hl2, hfl, htk, hroom, hroom2, hxl, hus, huo, hun, allO_t, TE.t, Span.t, Span.cs, beq_self_eq_true, List.length_nil]
      · by_cases hn : l.length = 0
        · have hnl : l = [] := List.length_eq_zero_iff.1 hn
          subst hnl
          rw [List.nil_append] at hB hxl hus
          simp (decide := true) (maxSteps := 4000000) only [go_sem, Nat.reduceAdd, Nat.reduceSub, Nat.reduceMul, Nat.reduceDiv, Nat.reduceMod, Nat.reduceLT, Nat.reduceLeDiff, Nat.reduceEqDiff, Nat.reduceBEq, Nat.reduceBNe, Nat.reduceGT, Int.reduceAdd, Int.reduceSub, Int.reduceMul, Int.reduceNeg, Int.reduceLT, Int.reduceLE, Int.reduceEq, Int.reduceNe, Int.reduceBEq, Int.reduceBNe, Int.reduceToNat, Int.reduceGT, Int.reduceGE, ↓reduceIte, decide_true, decide_false, eq_self, Nat.mul_one, Nat.zero_mul, Nat.one_mul, Int.le_refl, Nat.le_refl, Int.cast_ofNat_Int, Try.f12, Vial.t, Vial.cs, Rd.cs, hA, hB, hN, hl1, hl2, hfl, htk, hroom, hroom2, hxl, hus, huo, hun, allO_t, TE.t, Span.t, Span.cs, beq_self_eq_true, List.length_nil]
        · simp (decide := true) (maxSteps := 4000000) only [go_sem, Nat.reduceAdd, Nat.reduceSub, Nat.reduceMul, Nat.reduceDiv, Nat.reduceMod, Nat.reduceLT, Nat.reduceLeDiff, Nat.reduceEqDiff, Nat.reduceBEq, Nat.reduceBNe, Nat.reduceGT, Int.reduceAdd, Int.reduceSub, Int.reduceMul, Int.reduceNeg, Int.reduceLT, Int.reduceLE, Int.reduceEq, Int.reduceNe, Int.reduceBEq, Int.reduceBNe, Int.reduceToNat, Int.reduceGT, Int.reduceGE, ↓reduceIte, decide_true, decide_false, eq_self, Nat.mul_one, Nat.zero_mul, Nat.one_mul, Int.le_refl, Nat.le_refl, Int.cast_ofNat_Int, Try.f12, Vial.t, Vial.cs, Rd.cs, hA, hB, hN, hl1, hl2, hfl, htk, hroom, hroom2, hxl, hus, huo, hun, allO_t, TE.t, Span.t, Span.cs, beq_self_eq_true, hn]
    · have h1' : (be != 30) = true := by simpa using h1
      by_cases h2 : ae = 0
      · have h3 : (be != 0) = true := by simp; exact fun h => h0 ⟨h2, h⟩
        subst h2
        rcases hs with ⟨rfl, rfl⟩ | ⟨full, rfl⟩
        · rw [List.nil_append] at hB hxl hus
          simp (decide := true) (maxSteps := 4000000) only [go_sem, Nat.reduceAdd, Nat.reduceSub, Nat.reduceMul, Nat.reduceDiv, Nat.reduceMod, Nat.reduceLT, Nat.reduceLeDiff, Nat.reduceEqDiff, Nat.reduceBEq, Nat.reduceBNe, Nat.reduceGT, Int.reduceAdd, Int.reduceSub, Int.reduceMul, Int.reduceNeg, Int.reduceLT, Int.reduceLE, Int.reduceEq, Int.reduceNe, Int.reduceBEq, Int.reduceBNe, Int.reduceToNat, Int.reduceGT, Int.reduceGE, ↓reduceIte, decide_true, decide_false, eq_self, Nat.mul_one, Nat.zero_mul, Nat.one_mul, Int.le_refl, Nat.le_refl, Int.cast_ofNat_Int, Try.f12, Vial.t, Vial.cs, Rd.cs, hA, hB, hN, hl1, hl2, hfl, htk, hroom, hroom2, hxl, hus, huo, hun, allO_t, TE.t, Span.t, Span.cs, h1', h3, List.length_nil]
        · by_cases hn : l.length = 0
          · have hnl : l = [] := List.length_eq_zero_iff.1 hn
            subst hnl
            rw [List.nil_append] at hB hxl hus
            simp (decide := true) (maxSteps := 4000000) only [go_sem, Nat.reduceAdd, Nat.reduceSub, Nat.reduceMul, Nat.reduceDiv, Nat.reduceMod, Nat.reduceLT, Nat.reduceLeDiff, Nat.reduceEqDiff, Nat.reduceBEq, Nat.reduceBNe, Nat.reduceGT, Int.reduceAdd, Int.reduceSub, Int.reduceMul, Int.reduceNeg, Int.reduceLT, Int.reduceLE, Int.reduceEq, Int.reduceNe, Int.reduceBEq, Int.reduceBNe, Int.reduceToNat, Int.reduceGT, Int.reduceGE, ↓reduceIte, decide_true, decide_false, eq_self, Nat.mul_one, Nat.zero_mul, Nat.one_mul, Int.le_refl, Nat.le_refl, Int.cast_ofNat_Int, Try.f12, Vial.t, Vial.cs, Rd.cs, hA, hB, hN, hl1, hl2, hfl, htk, hroom, hroom2, hxl, hus, huo, hun, allO_t, TE.t, Span.t, Span.cs, h1', h3, List.length_nil]
          · simp (decide := true) (maxSteps := 4000000) only [go_sem, Nat.reduceAdd, Nat.reduceSub, Nat.reduceMul, Nat.reduceDiv, Nat.reduceMod, Nat.reduceLT, Nat.reduceLeDiff, Nat.reduceEqDiff, Nat.reduceBEq, Nat.reduceBNe, Nat.reduceGT, Int.reduceAdd, Int.reduceSub, Int.reduceMul, Int.reduceNeg, Int.reduceLT, Int.reduceLE, Int.reduceEq, Int.reduceNe, Int.reduceBEq, Int.reduceBNe, Int.reduceToNat, Int.reduceGT, Int.reduceGE, ↓reduceIte, decide_true, decide_false, eq_self, Nat.mul_one, Nat.zero_mul, Nat.one_mul, Int.le_refl, Nat.le_refl, Int.cast_ofNat_Int, Try.f12, Vial.t, Vial.cs, Rd.cs, hA, hB, hN, hl1, hl2, hfl, htk, hroom, hroom2, hxl, hus, huo, hun, allO_t, TE.t, Span.t, Span.cs, h1', h3, hn]
      · have h3 : (ae != 0) = true := by simpa using h2
        rcases hs with ⟨rfl, rfl⟩ | ⟨full, rfl⟩
        · rw [List.nil_append] at hB hxl hus
          simp (decide := true) (maxSteps := 4000000) only [go_sem, Nat.reduceAdd, Nat.reduceSub, Nat.reduceMul, Nat.reduceDiv, Nat.reduceMod, Nat.reduceLT, Nat.reduceLeDiff, Nat.reduceEqDiff, Nat.reduceBEq, Nat.reduceBNe, Nat.reduceGT, Int.reduceAdd, Int.reduceSub, Int.reduceMul, Int.reduceNeg, Int.reduceLT, Int.reduceLE, Int.reduceEq, Int.reduceNe, Int.reduceBEq, Int.reduceBNe, Int.reduceToNat, Int.reduceGT, Int.reduceGE, ↓reduceIte, decide_true, decide_false, eq_self, Nat.mul_one, Nat.zero_mul, Nat.one_mul, Int.le_refl, Nat.le_refl, Int.cast_ofNat_Int, Try.f12, Vial.t, Vial.cs, Rd.cs, hA, hB, hN, hl1, hl2, hfl, htk, hroom, hroom2, hxl, hus, huo, hun, allO_t, TE.t, Span.t, Span.cs, h1', h3, List.length_nil]
        · by_cases hn : l.length = 0
          · have hnl : l = [] := List.length_eq_zero_iff.1 hn
            subst hnl
            rw [List.nil_append] at hB hxl hus
            simp (decide := true) (maxSteps := 4000000) only [go_sem, Nat.reduceAdd, Nat.reduceSub, Nat.reduceMul, Nat.reduceDiv, Nat.reduceMod, Nat.reduceLT, Nat.reduceLeDiff, Nat.reduceEqDiff, Nat.reduceBEq, Nat.reduceBNe, Nat.reduceGT, Int.reduceAdd, Int.reduceSub, Int.reduceMul, Int.reduceNeg, Int.reduceLT, Int.reduceLE, Int.reduceEq, Int.reduceNe, Int.reduceBEq, Int.reduceBNe, Int.reduceToNat, Int.reduceGT, Int.reduceGE, ↓reduceIte, decide_true, decide_false, eq_self, Nat.mul_one, Nat.zero_mul, Nat.one_mul, Int.le_refl, Nat.le_refl, Int.cast_ofNat_Int, Try.f12, Vial.t, Vial.cs, Rd.cs, hA, hB, hN, hl1, hl2, hfl, htk, hroom, hroom2, hxl, hus, huo, hun, allO_t, TE.t, Span.t, Span.cs, h1', h3, List.length_nil]
          · simp (decide := true) (maxSteps := 4000000) only [go_sem, Nat.reduceAdd, Nat.reduceSub, Nat.reduceMul, Nat.reduceDiv, Nat.reduceMod, Nat.reduceLT, Nat.reduceLeDiff, Nat.reduceEqDiff, Nat.reduceBEq, Nat.reduceBNe, Nat.reduceGT, Int.reduceAdd, Int.reduceSub, Int.reduceMul, Int.reduceNeg, Int.reduceLT, Int.reduceLE, Int.reduceEq, Int.reduceNe, Int.reduceBEq, Int.reduceBNe, Int.reduceToNat, Int.reduceGT, Int.reduceGE, ↓reduceIte, decide_true, decide_false, eq_self, Nat.mul_one, Nat.zero_mul, Nat.one_mul, Int.le_refl, Nat.le_refl, Int.cast_ofNat_Int, Try.f12, Vial.t, Vial.cs, Rd.cs, hA, hB, hN, hl1, hl2, hfl, htk, hroom, hroom2, hxl, hus, huo, hun, allO_t, TE.t, Span.t, Span.cs, h1', h3, hn]
end Go.Proofs.Ytgofljmnlfnlnaa

/- Part Mm. -/
namespace Go.Oc
open Go Go.Pm Go.Proofs.Ytgofljmnlfnlnaa
/-- With a single reading each zero can be so. -/
theorem feas_one {v : Vial} (hv : v.ok = true) {m : Mk} (hm : inB m.at' 0 400 = true) {z : Int} (h1 : v.z0 ≤ z) (h2 : z ≤ v.z1) : feas v [m] z ∧ (withinS v.wr [m] z).lo = outM m z - v.wr ∧ (withinS v.wr [m] z).hi = outM m z + v.wr := by
  have hv' := Vial.ok_iff.1 hv
  have ho := outM_b (z := z) hm (by omega)
  have e : withinS v.wr [m] z = ⟨max (-10000) (outM m z - v.wr), min 10000 (outM m z + v.wr)⟩ := rfl
  refine ⟨⟨⟨h1, h2⟩, ?_⟩, ?_, ?_⟩ <;> rw [e] <;> simp only <;> omega
/-- How wide a single reading leaves the tilt, at most. -/
def wideM (v : Vial) (a : Int) : Int := max ((a - v.z0 + v.wr) * v.v0) ((a - v.z0 + v.wr) * v.v1) - min ((a - v.z1 - v.wr) * v.v0) ((a - v.z1 - v.wr) * v.v1)
theorem wide_one {v : Vial} (hv : v.ok = true) {a : Int} (ha : 0 ≤ a ∧ a ≤ 400) : (tilts v [⟨a, false⟩]).is = true ∧ (tilts v [⟨a, false⟩]).tilt.hi - (tilts v [⟨a, false⟩]).tilt.lo ≤ wideM v a := by
  have hv' := Vial.ok_iff.1 hv
  have hm : inB (⟨a, false⟩ : Mk).at' 0 400 = true := inB_iff.2 ha
  have hi : (tilts v [⟨a, false⟩]).is = true := tilts_is.2 ⟨v.z0, (feas_one hv hm (Int.le_refl _) (by omega)).1⟩
  obtain ⟨⟨z1, f1, e1⟩, ⟨z2, f2, e2⟩, _⟩ := tilts_at hi
  refine ⟨hi, ?_⟩
  have g1 := (feas_one hv hm f1.1.1 f1.1.2).2.1
  have g2 := (feas_one hv hm f2.1.1 f2.1.2).2.2
  have a1 := leastP_mono hv (show a - v.z1 - v.wr ≤ (withinS v.wr [⟨a, false⟩] z1).lo by rw [g1]; have := f1.1; simp only [outM]; simp; omega)
  have a2 := mostP_mono hv (show (withinS v.wr [⟨a, false⟩] z2).hi ≤ a - v.z0 + v.wr by rw [g2]; have := f2.1; simp only [outM]; simp; omega)
  rw [e1, e2]
  unfold leastP mostP at *
  unfold wideM
  omega
theorem fault_ge {v : Vial} {a : Nat} (h1 : v.l1 ≤ a) (h2 : (a : Int) ≤ 2 * v.marks - v.l1) (hi : (tilts v [⟨(a : Int), false⟩]).is = true) : ∀ k, a < k → (tilts v [⟨(a : Int), false⟩]).tilt.hi - (tilts v [⟨(a : Int), false⟩]).tilt.lo ≤ faultTo v k
  | k + 1, h => by
    rw [faultTo_succ]
    unfold faultStep wideT
    by_cases hk : a = k
    · subst hk
      rw [if_pos (by rw [hi, inB_iff.2 ⟨h1, h2⟩]; rfl)]
      omega
    · have ih := fault_ge h1 h2 hi k (by omega)
      split <;> omega
/-- What the loop of the law comes to. -/
def wideTo (v : Vial) (k : Nat) : Int := (range v.l1 k).foldl (fun m a => max m (wideM v a)) 0
theorem wideTo_succ (v : Vial) (k : Nat) : wideTo v (k + 1) = max (wideTo v k) (wideM v (v.l1 + k)) := by unfold wideTo; rw [range_succ, List.foldl_append]; rfl
theorem fault_wide {v : Vial} (hv : v.ok = true) : ∀ k : Nat, v.l1 + k ≤ 2 * v.marks - v.l1 + 1 → faultTo v (v.l1.toNat + k) ≤ wideTo v k
  | 0, _ => by
    rw [Nat.add_zero, faultTo_low (by have := Vial.ok_iff.1 hv; omega)]
    exact Int.le_refl 0
  | k + 1, h => by
    have hv' := Vial.ok_iff.1 hv
    have ih := fault_wide hv k (by omega)
    rw [wideTo_succ, ← Nat.add_assoc, faultTo_succ]
    have hw := (wide_one hv (a := v.l1 + k) (by omega)).2
    have e : ((v.l1.toNat + k : Nat) : Int) = v.l1 + k := by omega
    unfold faultStep wideT
    rw [e]
    split <;> omega
theorem fault_le_wide {v : Vial} (hv : v.ok = true) : faultOf v ≤ wideTo v (2 * v.marks - 2 * v.l1 + 1).toNat := by
  have hv' := Vial.ok_iff.1 hv
  have h := fault_wide hv (2 * v.marks - 2 * v.l1 + 1).toNat (by omega)
  have e := faultTo_high (v := v) (k := v.l1.toNat + (2 * v.marks - 2 * v.l1 + 1).toNat) (by omega) (v.l1 - 0).toNat
  rw [show v.l1.toNat + (2 * v.marks - 2 * v.l1 + 1).toNat + (v.l1 - 0).toNat = (2 * v.marks + 1).toNat by omega] at e
  unfold faultOf
  rw [e]; exact h
/-- No other one is better. -/
theorem bestOf_min (l : List Of) : ∀ b, bestOf l = some b → ∀ x ∈ l, b.p ≤ x.p := by
  refine snoc_ind (p := fun l => ∀ b, bestOf l = some b → ∀ x ∈ l, b.p ≤ x.p) (fun b h => by cases h) (fun l y ih b h x hx => ?_) l
  rw [bestOf_snoc] at h
  unfold bestStep at h
  cases hb : bestOf l with
  | none =>
    rw [hb] at h
    cases h
    rcases List.mem_append.1 hx with hx | hx
    · cases l with
      | nil => cases hx
      | cons z l => obtain ⟨w, hw⟩ := best_some (l := z :: l) (by simp); rw [hw] at hb; cases hb
    · cases List.mem_singleton.1 hx; exact Int.le_refl _
  | some c =>
    rw [hb] at h
    simp only at h
    split at h
    · rename_i hlt
      cases h
      rcases List.mem_append.1 hx with hx | hx
      · have := ih c hb x hx; omega
      · cases List.mem_singleton.1 hx; exact Int.le_refl _
    · rename_i hlt
      cases h
      rcases List.mem_append.1 hx with hx | hx
      · exact ih b hb x hx
      · cases List.mem_singleton.1 hx; omega
/-- Nor one of the same price before it. -/
theorem offTo_first {st : List Vial} {pr : List Int} {rg fl : Int} : ∀ (n : Nat) (b : Of), bestOf (offTo st pr rg fl n) = some b → ∀ x ∈ offTo st pr rg fl n, x.p = b.p → b.i ≤ x.i
  | 0, b, h => by cases h
  | n + 1, b, h => by
    intro x hx hp
    cases ho : offAt st pr rg fl n with
    | none => rw [offTo_f ho] at h hx; exact offTo_first n b h x hx hp
    | some y =>
      rw [offTo_t ho] at h hx
      rw [bestOf_snoc] at h
      have hyi : y.i = n := by
        unfold offAt at ho
        split at ho
        · split at ho
          · cases ho; rfl
          · cases ho
        · cases ho
      have hlt : ∀ z ∈ offTo st pr rg fl n, z.i < n := fun z hz => by obtain ⟨i, a, c, _⟩ := offTo_mem hz; omega
      unfold bestStep at h
      cases hb : bestOf (offTo st pr rg fl n) with
      | none =>
        rw [hb] at h
        cases h
        rcases List.mem_append.1 hx with hx | hx
        · obtain ⟨w, hw⟩ := best_some (l := offTo st pr rg fl n) (List.length_pos_of_mem hx)
          rw [hw] at hb; cases hb
        · cases List.mem_singleton.1 hx; exact Int.le_refl _
      | some c =>
        rw [hb] at h
        simp only at h
        split at h
        · rename_i hlt'
          cases h
          rcases List.mem_append.1 hx with hx | hx
          · have := bestOf_min _ _ hb x hx; omega
          · cases List.mem_singleton.1 hx; exact Int.le_refl _
        · rename_i hlt'
          cases h
          rcases List.mem_append.1 hx with hx | hx
          · exact offTo_first n _ hb x hx hp
          · cases List.mem_singleton.1 hx
            have := hlt b (bestOf_mem _ _ hb)
            omega
theorem offTo_of {st : List Vial} {pr : List Int} {rg fl : Int} {n k : Nat} {x : Vial} {p : Int} (hk : k < n) (hx : st[k]? = some x) (hp : pr[k]? = some p) (hd : doesP x rg fl = true) : (⟨x, k, p⟩ : Of) ∈ offTo st pr rg fl n := by
  unfold offTo
  rw [List.mem_filterMap]
  refine ⟨k, List.mem_range.2 hk, ?_⟩
  unfold offAt
  rw [hx, hp]
  simp [hd]
/-- THE THEOREM OF THE VIAL, plainly: which vials do not do. -/
theorem choose_law {st : List Vial} {pr : List Int} {rg fl : Int} (h : okTo st pr rg fl st.length = true) :
    ((chooseP st pr rg fl = (0, 4)) ∧ ∀ (k : Nat) (x : Vial) (p : Int), st[k]? = some x → pr[k]? = some p → doesP x rg fl = false) ∨
    (∃ (i : Nat) (v : Vial) (q : Int), chooseP st pr rg fl = ((i : Int), 0) ∧ st[i]? = some v ∧ pr[i]? = some q ∧ doesP v rg fl = true ∧ ∀ (k : Nat) (x : Vial) (p : Int), st[k]? = some x → pr[k]? = some p → (p < q ∨ p = q ∧ k < i) → doesP x rg fl = false) := by
  unfold chooseP
  rw [if_pos h]
  cases hb : bestOf (offTo st pr rg fl st.length) with
  | none =>
    refine .inl ⟨rfl, fun k x p hx hp => ?_⟩
    cases hd : doesP x rg fl with
    | false => rfl
    | true =>
      have hk : k < st.length := by
        have := List.getElem?_eq_some_iff.1 hx
        exact this.1
      have hm := offTo_of hk hx hp hd
      obtain ⟨w, hw⟩ := best_some (List.length_pos_of_mem hm)
      rw [hw] at hb; cases hb
  | some b =>
    obtain ⟨i, hi, hbi, hp, v, hv, hbv, hd⟩ := offTo_mem (bestOf_mem _ _ hb)
    refine .inr ⟨i, v, b.p, (by simp only [hbi]), hv, hp, hd, fun k x p hx hp' hlt => ?_⟩
    cases hd' : doesP x rg fl with
    | false => rfl
    | true =>
      have hk : k < st.length := (List.getElem?_eq_some_iff.1 hx).1
      have hm := offTo_of hk hx hp' hd'
      have h1 := bestOf_min _ _ hb _ hm
      have h2 := offTo_first _ _ hb _ hm
      simp only at h1 h2
      rcases hlt with hlt | ⟨heq, hlt⟩
      · omega
      · have := h2 heq; omega
end Go.Oc

/- Part Mn. -/
namespace Go.Oc
open Go Go.Pm Go.Proofs.Ytgofljmnlfnlnaa
theorem in_room {v : Vial} (hv : v.ok = true) {rg cv cz ct : Int} (hM : 0 ≤ min (v.z0 - v.l1) (2 * v.marks - v.l1 - v.z1)) (hr : rg ≤ v.v0 * min (v.z0 - v.l1) (2 * v.marks - v.l1 - v.z1)) (h1 : v.v0 ≤ cv) (h2 : v.z0 ≤ cz ∧ cz ≤ v.z1) (h3 : -rg ≤ ct ∧ ct ≤ rg) :
    (cv * v.l1 ≤ cz * cv + ct ∧ cz * cv + ct ≤ cv * (2 * v.marks - v.l1)) ∧ cv * v.l1 ≤ cz * cv - ct ∧ cz * cv - ct ≤ cv * (2 * v.marks - v.l1) := by
  have hv' := Vial.ok_iff.1 hv
  have a := Int.mul_le_mul_of_nonneg_right h1 hM
  have b := Int.mul_le_mul_of_nonneg_left (show min (v.z0 - v.l1) (2 * v.marks - v.l1 - v.z1) ≤ cz - v.l1 by omega) (show 0 ≤ cv by omega)
  have c := Int.mul_le_mul_of_nonneg_left (show min (v.z0 - v.l1) (2 * v.marks - v.l1 - v.z1) ≤ 2 * v.marks - v.l1 - cz by omega) (show 0 ≤ cv by omega)
  rw [Int.mul_sub] at b c
  rw [Int.mul_comm cz cv]
  omega
/-- A single reading, with the bubble as long as can be. -/
theorem single {v : Vial} (hv : v.ok = true) {c fl : Int} (h1 : 0 ≤ c) (h2 : c + v.l1 ≤ v.marks) (hf : faultOf v ≤ fl) : (tiltR v [⟨c, c + v.l1, false⟩]).e = 0 ∧ (tiltR v [⟨c, c + v.l1, false⟩]).tilt.hi - (tiltR v [⟨c, c + v.l1, false⟩]).tilt.lo ≤ fl ∧
    (-5000000 ≤ (tiltR v [⟨c, c + v.l1, false⟩]).tilt.lo ∧ (tiltR v [⟨c, c + v.l1, false⟩]).tilt.hi ≤ 5000000 ∧ (tiltR v [⟨c, c + v.l1, false⟩]).tilt.lo ≤ (tiltR v [⟨c, c + v.l1, false⟩]).tilt.hi) := by
  have hv' := Vial.ok_iff.1 hv
  have hr : rdsOk v [⟨c, c + v.l1, false⟩] = true := by simp [rdsOk, rdOk, inB]; omega
  have hk : asked v [⟨c, c + v.l1, false⟩] = 0 := by unfold asked; simp [hv, hr]
  have e : [⟨c, c + v.l1, false⟩].map mid = [(⟨((c + (c + v.l1)).toNat : Int), false⟩ : Mk)] := by
    have : (((c + (c + v.l1)).toNat : Nat) : Int) = c + (c + v.l1) := Int.toNat_of_nonneg (by omega)
    rw [this]; rfl
  have w := wide_one hv (a := ((c + (c + v.l1)).toNat : Int)) (by omega)
  have g := fault_ge (v := v) (a := (c + (c + v.l1)).toNat) (by omega) (by omega) w.1 (2 * v.marks + 1).toNat (by omega)
  have bd := tilts_bound hv (mksOk_mid hv hr)
  have le := tilts_le hv w.1
  unfold tiltR
  rw [if_pos hk]
  rw [e] at bd ⊢
  rw [w.1]
  simp only [if_true]
  unfold faultOf at hf
  refine ⟨trivial, ?_, ?_, ?_, ?_⟩ <;> omega
theorem not_does {v : Vial} (hv : v.ok = true) {rg fl : Int} (h0 : 0 ≤ rg) (h : doesP v rg fl = false) (hr : ¬ v.v0 * min (2 * v.marks - v.l1 - v.z1) (v.z0 - v.l1) < rg) : wideTo v (2 * v.marks - 2 * v.l1 + 1).toNat > fl := by
  have hv' := Vial.ok_iff.1 hv
  have hf := fault_le_wide hv
  rw [Int.min_comm] at hr
  unfold doesP at h
  simp only [Bool.and_eq_false_iff, decide_eq_false_iff_not] at h
  rcases h with (h | h) | h
  · exfalso
    have := Int.mul_le_mul_of_nonneg_left (show min (v.z0 - v.l1) (2 * v.marks - v.l1 - v.z1) ≤ -1 by omega) (show 0 ≤ v.v0 by omega)
    omega
  · omega
  · omega
end Go.Oc
namespace Go.Proofs.Ytgofljmnlfnlnaa
open Go.RowKit Go.Pm Go.Oc
set_option maxRecDepth 100000
set_option linter.unusedVariables false
set_option maxHeartbeats 4000000

noncomputable def spD9 : Pm.Spec := spO1.one 33 goSound
@[go_sem] theorem spD9_p (f : FuncId) (xs : List TV) : spD9.p f xs = Pm.Spec.p (spO1.one 33 goSound) f xs := rfl
@[go_sem] theorem spD9_h (f : FuncId) (ps : List PV) (hl : List PO) : spD9.h f ps hl = Pm.Spec.h (spO1.one 33 goSound) f ps hl := rfl
@[go_sem] theorem spD9_fz (f : FuncId) : spD9.fz f = Pm.Spec.fz (spO1.one 33 goSound) f := rfl
@[go_sem] theorem spD9_fr (f : FuncId) : spD9.fr f = Pm.Spec.fr (spO1.one 33 goSound) f := rfl
@[go_sem] theorem spD9_mu (t : TypeId) : spD9.mu t = Pm.Spec.mu (spO1.one 33 goSound) t := rfl
theorem spD9_ok : SpecOk Try.prog spD9 := Spec.one_ok goSound_ok spO1_ok
theorem LevelDoes_c {st : List Vial} {pr : List Int} {s t : TV} (hs : IsRow Vial.cs s st) (ht : IsRow ic t pr) (rg fl n0 n1 n2 n3 n4 : Int) (hl : st.length ≤ 2199023255552) : PCalls Try.prog 14 [s, t, .agg [.int .i64 rg, .int .i64 fl], .agg [.int .i64 n0, .int .i64 n1, .int .i64 n2, .int .i64 n3, .int .i64 n4]] (.bool true) := by
  have hun : unVials [] = some [] := rfl
  have hun' : unI [] = some [] := rfl
  refine pcalls_by Try.mixes spD9_ok (fn := Try.f14) Try.func14 rfl (by kernel_rfl) (by show 4 ≤ _; decide) ?_
  cases hok : okTo st pr rg fl st.length with
  | false =>
    have hr : chooseP st pr rg fl = (0, 34) := by unfold chooseP; rw [hok]; rfl
    rcases hs with ⟨rfl, rfl⟩ | ⟨full, rfl⟩ <;> rcases ht with ⟨rfl, rfl⟩ | ⟨full', rfl⟩ <;> simp (decide := true) (maxSteps := 4000000) only [go_sem, Nat.reduceAdd, Nat.reduceSub, Nat.reduceMul, Nat.reduceDiv, Nat.reduceMod, Nat.reduceLT, Nat.reduceLeDiff, Nat.reduceEqDiff, Nat.reduceBEq, Nat.reduceBNe, Nat.reduceGT, Int.reduceAdd, Int.reduceSub, Int.reduceMul, Int.reduceNeg, Int.reduceLT, Int.reduceLE, Int.reduceEq, Int.reduceNe, Int.reduceBEq, Int.reduceBNe, Int.reduceToNat, Int.reduceGT, Int.reduceGE, ↓reduceIte, decide_true, decide_false, eq_self, Nat.mul_one, Nat.zero_mul, Nat.one_mul, Int.le_refl, Nat.le_refl, Int.cast_ofNat_Int, Try.f14, unVials_eq, ic_ints, unI_eq, hun, hun', hl, hr, List.length_nil]
  | true =>
    have hb := hok
    simp only [okTo, Bool.and_eq_true] at hb
    have hb := hb.1
    simp only [okBase, inB, Bool.and_eq_true, decide_eq_true_eq, beq_iff_eq] at hb
    have hlen : 1 ≤ st.length ∧ st.length ≤ 10 ∧ pr.length = st.length ∧ (0 ≤ rg ∧ rg ≤ 100000) ∧ 0 ≤ fl ∧ fl ≤ 100000 := by omega
    obtain ⟨full, rfl⟩ := hs.ne hlen.1
    obtain ⟨full', rfl⟩ := ht.ne (by omega)
    have hpe := hlen.2.2.1
    have b10 : inB (st.length : Int) 1 10 = true := inB_iff.2 (by omega)
    have c1 : 0 < (st.length : Int) ∧ (st.length : Int) ≤ 9223372036854775807 := by omega
    have i0 := Int.emod_nonneg n4 (show (st.length : Int) ≠ 0 by omega)
    have i1 := Int.emod_lt_of_pos n4 (show (0 : Int) < st.length by omega)
    obtain ⟨k, hk⟩ : ∃ k : Nat, n4 % (st.length : Int) = k := ⟨(n4 % st.length).toNat, (Int.toNat_of_nonneg i0).symm⟩
    rw [hk] at i1
    obtain ⟨x, hx⟩ := get_lt i1
    obtain ⟨y, hy⟩ := get_lt (l := pr) (k := k) (by omega)
    have hxo := okTo_ok hok (by omega) hx
    have hx' := Vial.ok_iff.1 hxo
    have hd := flat_at Vial.cs (n := 8) (fun _ => rfl) hx
    have hdy := flat_at ic (n := 1) (fun _ => rfl) hy
    rw [Nat.mul_one] at hdy
    have w1 : IntKind.i64.wrap (2 * x.marks) = 2 * x.marks := wrap_in (by omega) (by omega)
    have w2 : IntKind.i64.wrap (2 * x.marks - x.l1) = 2 * x.marks - x.l1 := wrap_in (by omega) (by omega)
    have w3 : IntKind.i64.wrap (2 * x.marks - x.l1 - x.z1) = 2 * x.marks - x.l1 - x.z1 := wrap_in (by omega) (by omega)
    have w4 : IntKind.i64.wrap (x.z0 - x.l1) = x.z0 - x.l1 := wrap_in (by omega) (by omega)
    have p := mulB (a := min (2 * x.marks - x.l1 - x.z1) (x.z0 - x.l1)) (b := x.v0) (by omega) (by omega)
    have w5 : IntKind.i64.wrap (x.v0 * min (2 * x.marks - x.l1 - x.z1) (x.z0 - x.l1)) = x.v0 * min (2 * x.marks - x.l1 - x.z1) (x.z0 - x.l1) := by rw [Int.mul_comm]; exact wrap_in (by omega) (by omega)
    rcases choose_law hok with ⟨hch, hno⟩ | ⟨i, v, q, hch, hv, hq, hdo, hno⟩
    · obtain ⟨y0, hy0⟩ := get_lt (l := pr) (k := 0) (by omega)
      have hd0 := flat_at ic (n := 1) (fun _ => rfl) hy0
      rw [Nat.zero_mul, List.drop_zero, ic_ints, ic_ints] at hd0
      have hu0 : unI (.int .i64 y0 :: ints (pr.drop 1)) = some pr := by
        have := unI_eq pr
        rw [hd0] at this
        exact this
      have hdk : List.drop k (TV.int .i64 y0 :: ints (pr.drop 1)) = .int .i64 y :: ints (pr.drop (k + 1)) := by
        have := ints_at hy
        rw [Nat.mul_one, hd0] at this
        exact this
      by_cases hreach : x.v0 * min (2 * x.marks - x.l1 - x.z1) (x.z0 - x.l1) < rg
      · simp (decide := true) (maxSteps := 4000000) only [go_sem, Nat.reduceAdd, Nat.reduceSub, Nat.reduceMul, Nat.reduceDiv, Nat.reduceMod, Nat.reduceLT, Nat.reduceLeDiff, Nat.reduceEqDiff, Nat.reduceBEq, Nat.reduceBNe, Nat.reduceGT, Int.reduceAdd, Int.reduceSub, Int.reduceMul, Int.reduceNeg, Int.reduceLT, Int.reduceLE, Int.reduceEq, Int.reduceNe, Int.reduceBEq, Int.reduceBNe, Int.reduceToNat, Int.reduceGT, Int.reduceGE, ↓reduceIte, decide_true, decide_false, eq_self, Nat.mul_one, Nat.zero_mul, Nat.one_mul, Int.le_refl, Nat.le_refl, Int.cast_ofNat_Int, Try.f14, unVials_eq, ic_ints, unI_eq, hl, hpe, hch, b10, c1, hk, i1, hd, hdy, Vial.cs, ic, w1, w2, w3, w4, w5, hxo, hlen, bne_self_eq_false, beq_self_eq_true, hd0, hu0, hdk, hreach]
      · have hwide := not_does hxo hlen.2.2.2.1.1 (hno k x y hx hy) hreach
        simp (decide := true) (maxSteps := 4000000) only [go_sem, Nat.reduceAdd, Nat.reduceSub, Nat.reduceMul, Nat.reduceDiv, Nat.reduceMod, Nat.reduceLT, Nat.reduceLeDiff, Nat.reduceEqDiff, Nat.reduceBEq, Nat.reduceBNe, Nat.reduceGT, Int.reduceAdd, Int.reduceSub, Int.reduceMul, Int.reduceNeg, Int.reduceLT, Int.reduceLE, Int.reduceEq, Int.reduceNe, Int.reduceBEq, Int.reduceBNe, Int.reduceToNat, Int.reduceGT, Int.reduceGE, ↓reduceIte, decide_true, decide_false, eq_self, Nat.mul_one, Nat.zero_mul, Nat.one_mul, Int.le_refl, Nat.le_refl, Int.cast_ofNat_Int, Try.f14, unVials_eq, ic_ints, unI_eq, hl, hpe, hch, b10, c1, hk, i1, hd, hdy, Vial.cs, ic, w1, w2, w3, w4, w5, hxo, hlen, bne_self_eq_false, beq_self_eq_true, hd0, hu0, hdk, hreach]
        refine pwpC_loopU (A := { a : Nat // a ≤ (2 * x.marks - 2 * x.l1 + 1).toNat }) [6, 22] (fun a => [(25, .t (.int .i64 (x.l1 + (a.1 : Nat)))), (24, .t (.int .i64 (wideTo x a.1)))]) (fun _ => []) (fun a => (2 * x.marks - 2 * x.l1 + 1).toNat - a.1) ⟨0, by omega⟩ (by decide) (fun _ => by rfl) ?_ fun Q hQ ⟨a, ha⟩ I hI => ?_
        · simp (decide := true) (maxSteps := 4000000) only [go_sem, Nat.reduceAdd, Nat.reduceSub, Nat.reduceMul, Nat.reduceDiv, Nat.reduceMod, Nat.reduceLT, Nat.reduceLeDiff, Nat.reduceEqDiff, Nat.reduceBEq, Nat.reduceBNe, Nat.reduceGT, Int.reduceAdd, Int.reduceSub, Int.reduceMul, Int.reduceNeg, Int.reduceLT, Int.reduceLE, Int.reduceEq, Int.reduceNe, Int.reduceBEq, Int.reduceBNe, Int.reduceToNat, Int.reduceGT, Int.reduceGE, ↓reduceIte, decide_true, decide_false, eq_self, Nat.mul_one, Nat.zero_mul, Nat.one_mul, Int.le_refl, Nat.le_refl, Int.cast_ofNat_Int, Int.add_zero, Int.cast_ofNat_Int]
          first | done | rfl
        · by_cases hlt : x.l1 + (a : Nat) ≤ 2 * x.marks - x.l1
          · have ws := wideTo_succ x a
            unfold wideM at ws
            have m1 := mulB (a := x.l1 + (a : Nat) - x.z0 + x.wr) (b := x.v0) (by omega) (by omega)
            have m2 := mulB (a := x.l1 + (a : Nat) - x.z0 + x.wr) (b := x.v1) (by omega) (by omega)
            have m3 := mulB (a := x.l1 + (a : Nat) - x.z1 - x.wr) (b := x.v0) (by omega) (by omega)
            have m4 := mulB (a := x.l1 + (a : Nat) - x.z1 - x.wr) (b := x.v1) (by omega) (by omega)
            have u1 := wrap_in (n := x.l1 + (a : Nat) - x.z1) (by omega) (by omega)
            have u2 := wrap_in (n := x.l1 + (a : Nat) - x.z1 - x.wr) (by omega) (by omega)
            have u3 := wrap_in (n := x.l1 + (a : Nat) - x.z0) (by omega) (by omega)
            have u4 := wrap_in (n := x.l1 + (a : Nat) - x.z0 + x.wr) (by omega) (by omega)
            have u5 := wrap_in (n := (x.l1 + (a : Nat) - x.z0 + x.wr) * x.v0) (by omega) (by omega)
            have u6 := wrap_in (n := (x.l1 + (a : Nat) - x.z0 + x.wr) * x.v1) (by omega) (by omega)
            have u7 := wrap_in (n := (x.l1 + (a : Nat) - x.z1 - x.wr) * x.v0) (by omega) (by omega)
            have u8 := wrap_in (n := (x.l1 + (a : Nat) - x.z1 - x.wr) * x.v1) (by omega) (by omega)
            have u9 := wrap_in (n := max ((x.l1 + (a : Nat) - x.z0 + x.wr) * x.v0) ((x.l1 + (a : Nat) - x.z0 + x.wr) * x.v1) - min ((x.l1 + (a : Nat) - x.z1 - x.wr) * x.v0) ((x.l1 + (a : Nat) - x.z1 - x.wr) * x.v1)) (by omega) (by omega)
            have hc1 : IntKind.i64.wrap (x.l1 + (a : Nat) + 1) = x.l1 + ((a + 1 : Nat) : Int) := by rw [wrap_in (by omega) (by omega)]; omega
            simp (decide := true) (maxSteps := 4000000) only [go_sem, Nat.reduceAdd, Nat.reduceSub, Nat.reduceMul, Nat.reduceDiv, Nat.reduceMod, Nat.reduceLT, Nat.reduceLeDiff, Nat.reduceEqDiff, Nat.reduceBEq, Nat.reduceBNe, Nat.reduceGT, Int.reduceAdd, Int.reduceSub, Int.reduceMul, Int.reduceNeg, Int.reduceLT, Int.reduceLE, Int.reduceEq, Int.reduceNe, Int.reduceBEq, Int.reduceBNe, Int.reduceToNat, Int.reduceGT, Int.reduceGE, ↓reduceIte, decide_true, decide_false, eq_self, Nat.mul_one, Nat.zero_mul, Nat.one_mul, Int.le_refl, Nat.le_refl, Int.cast_ofNat_Int, hlt, w1, w2, u1, u2, u3, u4, u5, u6, u7, u8, u9]
            refine hI _ ⟨a + 1, by omega⟩ (by simp only; omega) ?_
            simp (decide := true) (maxSteps := 4000000) only [go_sem, Nat.reduceAdd, Nat.reduceSub, Nat.reduceMul, Nat.reduceDiv, Nat.reduceMod, Nat.reduceLT, Nat.reduceLeDiff, Nat.reduceEqDiff, Nat.reduceBEq, Nat.reduceBNe, Nat.reduceGT, Int.reduceAdd, Int.reduceSub, Int.reduceMul, Int.reduceNeg, Int.reduceLT, Int.reduceLE, Int.reduceEq, Int.reduceNe, Int.reduceBEq, Int.reduceBNe, Int.reduceToNat, Int.reduceGT, Int.reduceGE, ↓reduceIte, decide_true, decide_false, eq_self, Nat.mul_one, Nat.zero_mul, Nat.one_mul, Int.le_refl, Nat.le_refl, Int.cast_ofNat_Int, hc1, ws]
          · have hae : a = (2 * x.marks - 2 * x.l1 + 1).toNat := by omega
            subst hae
            simp (decide := true) (maxSteps := 4000000) only [go_sem, Nat.reduceAdd, Nat.reduceSub, Nat.reduceMul, Nat.reduceDiv, Nat.reduceMod, Nat.reduceLT, Nat.reduceLeDiff, Nat.reduceEqDiff, Nat.reduceBEq, Nat.reduceBNe, Nat.reduceGT, Int.reduceAdd, Int.reduceSub, Int.reduceMul, Int.reduceNeg, Int.reduceLT, Int.reduceLE, Int.reduceEq, Int.reduceNe, Int.reduceBEq, Int.reduceBNe, Int.reduceToNat, Int.reduceGT, Int.reduceGE, ↓reduceIte, decide_true, decide_false, eq_self, Nat.mul_one, Nat.zero_mul, Nat.one_mul, Int.le_refl, Nat.le_refl, Int.cast_ofNat_Int, hlt, w1, w2]
            refine hQ _ _ ?_
            simp (decide := true) (maxSteps := 4000000) only [go_sem, Nat.reduceAdd, Nat.reduceSub, Nat.reduceMul, Nat.reduceDiv, Nat.reduceMod, Nat.reduceLT, Nat.reduceLeDiff, Nat.reduceEqDiff, Nat.reduceBEq, Nat.reduceBNe, Nat.reduceGT, Int.reduceAdd, Int.reduceSub, Int.reduceMul, Int.reduceNeg, Int.reduceLT, Int.reduceLE, Int.reduceEq, Int.reduceNe, Int.reduceBEq, Int.reduceBNe, Int.reduceToNat, Int.reduceGT, Int.reduceGE, ↓reduceIte, decide_true, decide_false, eq_self, Nat.mul_one, Nat.zero_mul, Nat.one_mul, Int.le_refl, Nat.le_refl, Int.cast_ofNat_Int, hwide]
    · have hii : (i : Int) < st.length := by have := (List.getElem?_eq_some_iff.1 hv).1; omega
      have hvo := okTo_ok hok (by omega) hv
      have hv' := Vial.ok_iff.1 hvo
      have hdv := flat_at Vial.cs (n := 8) (fun _ => rfl) hv
      have hdi := ints_at hq
      rw [Nat.mul_one] at hdi
      have hdy' := ints_at hy
      rw [Nat.mul_one] at hdy'
      have hin : inB (i : Int) 0 ((st.length : Int) - 1) = true := inB_iff.2 (by omega)
      have e1 : IntKind.i64.wrap ((st.length : Int) - 1) = (st.length : Int) - 1 := wrap_in (by omega) (by omega)
      have hdo' := hdo
      unfold doesP at hdo'
      simp only [Bool.and_eq_true, decide_eq_true_eq] at hdo'
      obtain ⟨⟨hM, hR⟩, hF⟩ := hdo'
      obtain ⟨cv, e2⟩ : ∃ c, chosen v.v0 v.v1 n0 = c := ⟨_, rfl⟩
      obtain ⟨cz, e3⟩ : ∃ c, chosen v.z0 v.z1 n1 = c := ⟨_, rfl⟩
      obtain ⟨ct, e4⟩ : ∃ c, chosen (-rg) rg n2 = c := ⟨_, rfl⟩
      obtain ⟨cl, e5⟩ : ∃ c, chosen 0 (v.marks - v.l1) n3 = c := ⟨_, rfl⟩
      have b2 := chosen_mem n0 (show v.v0 ≤ v.v1 by omega)
      have b3 := chosen_mem n1 (show v.z0 ≤ v.z1 by omega)
      have b4 := chosen_mem n2 (show -rg ≤ rg by omega)
      have b5 := chosen_mem n3 (show 0 ≤ v.marks - v.l1 by omega)
      rw [e2] at b2
      rw [e3] at b3
      rw [e4] at b4
      rw [e5] at b5
      have g1c : (-9223372036854775808 ≤ v.v0 ∧ v.v0 ≤ 9223372036854775807) ∧ -9223372036854775808 ≤ v.v1 ∧ v.v1 ≤ 9223372036854775807 := by omega
      have g2c : (-9223372036854775808 ≤ v.z0 ∧ v.z0 ≤ 9223372036854775807) ∧ -9223372036854775808 ≤ v.z1 ∧ v.z1 ≤ 9223372036854775807 := by omega
      have g3c : ((-9223372036854775808 ≤ -rg ∧ -rg ≤ 9223372036854775807) ∧ -9223372036854775808 ≤ rg ∧ rg ≤ 9223372036854775807) ∧ -9223372036854775808 ≤ v.marks - v.l1 ∧ v.marks - v.l1 ≤ 9223372036854775807 := by omega
      have e6 : IntKind.i64.wrap (0 - rg) = -rg := by rw [wrap_in (by omega) (by omega)]; omega
      have p1 := mulB (a := v.l1) (b := cv) (by omega) (by omega)
      have p2 := mulB (a := 2 * v.marks - v.l1) (b := cv) (by omega) (by omega)
      have p3 := mulB (a := cz) (b := cv) (by omega) (by omega)
      have e7 : IntKind.i64.wrap (cv * v.l1) = cv * v.l1 := by rw [Int.mul_comm]; exact wrap_in (by omega) (by omega)
      have e8 : IntKind.i64.wrap (2 * v.marks) = 2 * v.marks := wrap_in (by omega) (by omega)
      have e9 : IntKind.i64.wrap (2 * v.marks - v.l1) = 2 * v.marks - v.l1 := wrap_in (by omega) (by omega)
      have e10 : IntKind.i64.wrap (cv * (2 * v.marks - v.l1)) = cv * (2 * v.marks - v.l1) := by rw [Int.mul_comm]; exact wrap_in (by omega) (by omega)
      have e11 : IntKind.i64.wrap (cz * cv) = cz * cv := wrap_in (by omega) (by omega)
      have e12 : IntKind.i64.wrap (cz * cv + ct) = cz * cv + ct := wrap_in (by omega) (by omega)
      have e13 : IntKind.i64.wrap (cz * cv - ct) = cz * cv - ct := wrap_in (by omega) (by omega)
      have e14 : IntKind.i64.wrap (v.marks - v.l1) = v.marks - v.l1 := wrap_in (by omega) (by omega)
      have e15 : IntKind.i64.wrap (cl + v.l1) = cl + v.l1 := wrap_in (by omega) (by omega)
      have hroom := in_room hvo hM hR b2.1 b3 b4
      have inB_t1 := inB_iff.2 hroom.1
      have inB_t2 := inB_iff.2 hroom.2
      obtain ⟨s1, s2, s3⟩ := single hvo b5.1 (by omega) hF
      obtain ⟨T, hT⟩ : ∃ T, tiltR v [⟨cl, cl + v.l1, false⟩] = T := ⟨_, rfl⟩
      rw [hT] at s1 s2 s3
      obtain ⟨⟨t0, t1⟩, ⟨z0, z1⟩, te⟩ := T
      simp only at s1 s2 s3
      subst s1
      have e16 : IntKind.i64.wrap (t1 - t0) = t1 - t0 := wrap_in (by omega) (by omega)
      have e17 : ¬ t1 - t0 > fl := by omega
      have hfl : (1 : Nat) ≤ 5864062014806 := by decide
      have hwid : True := trivial
      by_cases hy1 : y > q
      · simp (decide := true) (maxSteps := 4000000) only [go_sem, Nat.reduceAdd, Nat.reduceSub, Nat.reduceMul, Nat.reduceDiv, Nat.reduceMod, Nat.reduceLT, Nat.reduceLeDiff, Nat.reduceEqDiff, Nat.reduceBEq, Nat.reduceBNe, Nat.reduceGT, Int.reduceAdd, Int.reduceSub, Int.reduceMul, Int.reduceNeg, Int.reduceLT, Int.reduceLE, Int.reduceEq, Int.reduceNe, Int.reduceBEq, Int.reduceBNe, Int.reduceToNat, Int.reduceGT, Int.reduceGE, ↓reduceIte, decide_true, decide_false, eq_self, Nat.mul_one, Nat.zero_mul, Nat.one_mul, Int.le_refl, Nat.le_refl, Int.cast_ofNat_Int, Try.f14, unVials_eq, ic_ints, unI_eq, hl, hpe, hch, b10, c1, hk, i1, hd, hdy', Vial.cs, ic, w1, w2, w3, w4, w5, hxo, hlen, bne_self_eq_false, beq_self_eq_true, e1, e2, e3, e4, e5, e6, e7, e8, e9, e10, e11, e12, e13, e14, e15, e16, e17, hin, hii, hvo, hdv, hdi, hT, hfl, TE.t, Span.t, Span.cs, unRds, inB_t1, inB_t2, g1c, g2c, g3c, hwid, hy1]
      · by_cases hy2 : y = q
        · have hy2' : (y == q) = true := by simpa using hy2
          by_cases hy3 : (k : Int) ≥ i
          · simp (decide := true) (maxSteps := 4000000) only [go_sem, Nat.reduceAdd, Nat.reduceSub, Nat.reduceMul, Nat.reduceDiv, Nat.reduceMod, Nat.reduceLT, Nat.reduceLeDiff, Nat.reduceEqDiff, Nat.reduceBEq, Nat.reduceBNe, Nat.reduceGT, Int.reduceAdd, Int.reduceSub, Int.reduceMul, Int.reduceNeg, Int.reduceLT, Int.reduceLE, Int.reduceEq, Int.reduceNe, Int.reduceBEq, Int.reduceBNe, Int.reduceToNat, Int.reduceGT, Int.reduceGE, ↓reduceIte, decide_true, decide_false, eq_self, Nat.mul_one, Nat.zero_mul, Nat.one_mul, Int.le_refl, Nat.le_refl, Int.cast_ofNat_Int, Try.f14, unVials_eq, ic_ints, unI_eq, hl, hpe, hch, b10, c1, hk, i1, hd, hdy', Vial.cs, ic, w1, w2, w3, w4, w5, hxo, hlen, bne_self_eq_false, beq_self_eq_true, e1, e2, e3, e4, e5, e6, e7, e8, e9, e10, e11, e12, e13, e14, e15, e16, e17, hin, hii, hvo, hdv, hdi, hT, hfl, TE.t, Span.t, Span.cs, unRds, inB_t1, inB_t2, g1c, g2c, g3c, hwid, hy1, hy2', hy3]
          · by_cases hreach : x.v0 * min (2 * x.marks - x.l1 - x.z1) (x.z0 - x.l1) < rg
            · simp (decide := true) (maxSteps := 4000000) only [go_sem, Nat.reduceAdd, Nat.reduceSub, Nat.reduceMul, Nat.reduceDiv, Nat.reduceMod, Nat.reduceLT, Nat.reduceLeDiff, Nat.reduceEqDiff, Nat.reduceBEq, Nat.reduceBNe, Nat.reduceGT, Int.reduceAdd, Int.reduceSub, Int.reduceMul, Int.reduceNeg, Int.reduceLT, Int.reduceLE, Int.reduceEq, Int.reduceNe, Int.reduceBEq, Int.reduceBNe, Int.reduceToNat, Int.reduceGT, Int.reduceGE, ↓reduceIte, decide_true, decide_false, eq_self, Nat.mul_one, Nat.zero_mul, Nat.one_mul, Int.le_refl, Nat.le_refl, Int.cast_ofNat_Int, Try.f14, unVials_eq, ic_ints, unI_eq, hl, hpe, hch, b10, c1, hk, i1, hd, hdy', Vial.cs, ic, w1, w2, w3, w4, w5, hxo, hlen, bne_self_eq_false, beq_self_eq_true, e1, e2, e3, e4, e5, e6, e7, e8, e9, e10, e11, e12, e13, e14, e15, e16, e17, hin, hii, hvo, hdv, hdi, hT, hfl, TE.t, Span.t, Span.cs, unRds, inB_t1, inB_t2, g1c, g2c, g3c, hwid, hy1, hy2', hy3, hreach]
            · have hwide := not_does hxo hlen.2.2.2.1.1 (hno k x y hx hy (.inr ⟨hy2, by omega⟩)) hreach
              simp (decide := true) (maxSteps := 4000000) only [go_sem, Nat.reduceAdd, Nat.reduceSub, Nat.reduceMul, Nat.reduceDiv, Nat.reduceMod, Nat.reduceLT, Nat.reduceLeDiff, Nat.reduceEqDiff, Nat.reduceBEq, Nat.reduceBNe, Nat.reduceGT, Int.reduceAdd, Int.reduceSub, Int.reduceMul, Int.reduceNeg, Int.reduceLT, Int.reduceLE, Int.reduceEq, Int.reduceNe, Int.reduceBEq, Int.reduceBNe, Int.reduceToNat, Int.reduceGT, Int.reduceGE, ↓reduceIte, decide_true, decide_false, eq_self, Nat.mul_one, Nat.zero_mul, Nat.one_mul, Int.le_refl, Nat.le_refl, Int.cast_ofNat_Int, Try.f14, unVials_eq, ic_ints, unI_eq, hl, hpe, hch, b10, c1, hk, i1, hd, hdy', Vial.cs, ic, w1, w2, w3, w4, w5, hxo, hlen, bne_self_eq_false, beq_self_eq_true, e1, e2, e3, e4, e5, e6, e7, e8, e9, e10, e11, e12, e13, e14, e15, e16, e17, hin, hii, hvo, hdv, hdi, hT, hfl, TE.t, Span.t, Span.cs, unRds, inB_t1, inB_t2, g1c, g2c, g3c, hwid, hy1, hy2', hy3, hreach]
              refine pwpC_loopU (A := { a : Nat // a ≤ (2 * x.marks - 2 * x.l1 + 1).toNat }) [6, 22] (fun a => [(25, .t (.int .i64 (x.l1 + (a.1 : Nat)))), (24, .t (.int .i64 (wideTo x a.1)))]) (fun _ => []) (fun a => (2 * x.marks - 2 * x.l1 + 1).toNat - a.1) ⟨0, by omega⟩ (by decide) (fun _ => by rfl) ?_ fun Q hQ ⟨a, ha⟩ I hI => ?_
              · simp (decide := true) (maxSteps := 4000000) only [go_sem, Nat.reduceAdd, Nat.reduceSub, Nat.reduceMul, Nat.reduceDiv, Nat.reduceMod, Nat.reduceLT, Nat.reduceLeDiff, Nat.reduceEqDiff, Nat.reduceBEq, Nat.reduceBNe, Nat.reduceGT, Int.reduceAdd, Int.reduceSub, Int.reduceMul, Int.reduceNeg, Int.reduceLT, Int.reduceLE, Int.reduceEq, Int.reduceNe, Int.reduceBEq, Int.reduceBNe, Int.reduceToNat, Int.reduceGT, Int.reduceGE, ↓reduceIte, decide_true, decide_false, eq_self, Nat.mul_one, Nat.zero_mul, Nat.one_mul, Int.le_refl, Nat.le_refl, Int.cast_ofNat_Int, Int.add_zero, Int.cast_ofNat_Int]
                first | done | rfl
              · by_cases hlt : x.l1 + (a : Nat) ≤ 2 * x.marks - x.l1
                · have ws := wideTo_succ x a
                  unfold wideM at ws
                  have m1 := mulB (a := x.l1 + (a : Nat) - x.z0 + x.wr) (b := x.v0) (by omega) (by omega)
                  have m2 := mulB (a := x.l1 + (a : Nat) - x.z0 + x.wr) (b := x.v1) (by omega) (by omega)
                  have m3 := mulB (a := x.l1 + (a : Nat) - x.z1 - x.wr) (b := x.v0) (by omega) (by omega)
                  have m4 := mulB (a := x.l1 + (a : Nat) - x.z1 - x.wr) (b := x.v1) (by omega) (by omega)
                  have u1 := wrap_in (n := x.l1 + (a : Nat) - x.z1) (by omega) (by omega)
                  have u2 := wrap_in (n := x.l1 + (a : Nat) - x.z1 - x.wr) (by omega) (by omega)
                  have u3 := wrap_in (n := x.l1 + (a : Nat) - x.z0) (by omega) (by omega)
                  have u4 := wrap_in (n := x.l1 + (a : Nat) - x.z0 + x.wr) (by omega) (by omega)
                  have u5 := wrap_in (n := (x.l1 + (a : Nat) - x.z0 + x.wr) * x.v0) (by omega) (by omega)
                  have u6 := wrap_in (n := (x.l1 + (a : Nat) - x.z0 + x.wr) * x.v1) (by omega) (by omega)
                  have u7 := wrap_in (n := (x.l1 + (a : Nat) - x.z1 - x.wr) * x.v0) (by omega) (by omega)
                  have u8 := wrap_in (n := (x.l1 + (a : Nat) - x.z1 - x.wr) * x.v1) (by omega) (by omega)
                  have u9 := wrap_in (n := max ((x.l1 + (a : Nat) - x.z0 + x.wr) * x.v0) ((x.l1 + (a : Nat) - x.z0 + x.wr) * x.v1) - min ((x.l1 + (a : Nat) - x.z1 - x.wr) * x.v0) ((x.l1 + (a : Nat) - x.z1 - x.wr) * x.v1)) (by omega) (by omega)
                  have hc1 : IntKind.i64.wrap (x.l1 + (a : Nat) + 1) = x.l1 + ((a + 1 : Nat) : Int) := by rw [wrap_in (by omega) (by omega)]; omega
                  simp (decide := true) (maxSteps := 4000000) only [go_sem, Nat.reduceAdd, Nat.reduceSub, Nat.reduceMul, Nat.reduceDiv, Nat.reduceMod, Nat.reduceLT, Nat.reduceLeDiff, Nat.reduceEqDiff, Nat.reduceBEq, Nat.reduceBNe, Nat.reduceGT, Int.reduceAdd, Int.reduceSub, Int.reduceMul, Int.reduceNeg, Int.reduceLT, Int.reduceLE, Int.reduceEq, Int.reduceNe, Int.reduceBEq, Int.reduceBNe, Int.reduceToNat, Int.reduceGT, Int.reduceGE, ↓reduceIte, decide_true, decide_false, eq_self, Nat.mul_one, Nat.zero_mul, Nat.one_mul, Int.le_refl, Nat.le_refl, Int.cast_ofNat_Int, hlt, w1, w2, u1, u2, u3, u4, u5, u6, u7, u8, u9]
                  refine hI _ ⟨a + 1, by omega⟩ (by simp only; omega) ?_
                  simp (decide := true) (maxSteps := 4000000) only [go_sem, Nat.reduceAdd, Nat.reduceSub, Nat.reduceMul, Nat.reduceDiv, Nat.reduceMod, Nat.reduceLT, Nat.reduceLeDiff, Nat.reduceEqDiff, Nat.reduceBEq, Nat.reduceBNe, Nat.reduceGT, Int.reduceAdd, Int.reduceSub, Int.reduceMul, Int.reduceNeg, Int.reduceLT, Int.reduceLE, Int.reduceEq, Int.reduceNe, Int.reduceBEq, Int.reduceBNe, Int.reduceToNat, Int.reduceGT, Int.reduceGE, ↓reduceIte, decide_true, decide_false, eq_self, Nat.mul_one, Nat.zero_mul, Nat.one_mul, Int.le_refl, Nat.le_refl, Int.cast_ofNat_Int, hc1, ws]
                · have hae : a = (2 * x.marks - 2 * x.l1 + 1).toNat := by omega
                  subst hae
                  simp (decide := true) (maxSteps := 4000000) only [go_sem, Nat.reduceAdd, Nat.reduceSub, Nat.reduceMul, Nat.reduceDiv, Nat.reduceMod, Nat.reduceLT, Nat.reduceLeDiff, Nat.reduceEqDiff, Nat.reduceBEq, Nat.reduceBNe, Nat.reduceGT, Int.reduceAdd, Int.reduceSub, Int.reduceMul, Int.reduceNeg, Int.reduceLT, Int.reduceLE, Int.reduceEq, Int.reduceNe, Int.reduceBEq, Int.reduceBNe, Int.reduceToNat, Int.reduceGT, Int.reduceGE, ↓reduceIte, decide_true, decide_false, eq_self, Nat.mul_one, Nat.zero_mul, Nat.one_mul, Int.le_refl, Nat.le_refl, Int.cast_ofNat_Int, hlt, w1, w2]
                  refine hQ _ _ ?_
                  simp (decide := true) (maxSteps := 4000000) only [go_sem, Nat.reduceAdd, Nat.reduceSub, Nat.reduceMul, Nat.reduceDiv, Nat.reduceMod, Nat.reduceLT, Nat.reduceLeDiff, Nat.reduceEqDiff, Nat.reduceBEq, Nat.reduceBNe, Nat.reduceGT, Int.reduceAdd, Int.reduceSub, Int.reduceMul, Int.reduceNeg, Int.reduceLT, Int.reduceLE, Int.reduceEq, Int.reduceNe, Int.reduceBEq, Int.reduceBNe, Int.reduceToNat, Int.reduceGT, Int.reduceGE, ↓reduceIte, decide_true, decide_false, eq_self, Nat.mul_one, Nat.zero_mul, Nat.one_mul, Int.le_refl, Nat.le_refl, Int.cast_ofNat_Int, hwide]
        · have hy2' : (y == q) = false := by simpa using hy2
          by_cases hreach : x.v0 * min (2 * x.marks - x.l1 - x.z1) (x.z0 - x.l1) < rg
          · simp (decide := true) (maxSteps := 4000000) only [go_sem, Nat.reduceAdd, Nat.reduceSub, Nat.reduceMul, Nat.reduceDiv, Nat.reduceMod, Nat.reduceLT, Nat.reduceLeDiff, Nat.reduceEqDiff, Nat.reduceBEq, Nat.reduceBNe, Nat.reduceGT, Int.reduceAdd, Int.reduceSub, Int.reduceMul, Int.reduceNeg, Int.reduceLT, Int.reduceLE, Int.reduceEq, Int.reduceNe, Int.reduceBEq, Int.reduceBNe, Int.reduceToNat, Int.reduceGT, Int.reduceGE, ↓reduceIte, decide_true, decide_false, eq_self, Nat.mul_one, Nat.zero_mul, Nat.one_mul, Int.le_refl, Nat.le_refl, Int.cast_ofNat_Int, Try.f14, unVials_eq, ic_ints, unI_eq, hl, hpe, hch, b10, c1, hk, i1, hd, hdy', Vial.cs, ic, w1, w2, w3, w4, w5, hxo, hlen, bne_self_eq_false, beq_self_eq_true, e1, e2, e3, e4, e5, e6, e7, e8, e9, e10, e11, e12, e13, e14, e15, e16, e17, hin, hii, hvo, hdv, hdi, hT, hfl, TE.t, Span.t, Span.cs, unRds, inB_t1, inB_t2, g1c, g2c, g3c, hwid, hy1, hy2', hreach]
          · have hwide := not_does hxo hlen.2.2.2.1.1 (hno k x y hx hy (.inl (by omega))) hreach
            simp (decide := true) (maxSteps := 4000000) only [go_sem, Nat.reduceAdd, Nat.reduceSub, Nat.reduceMul, Nat.reduceDiv, Nat.reduceMod, Nat.reduceLT, Nat.reduceLeDiff, Nat.reduceEqDiff, Nat.reduceBEq, Nat.reduceBNe, Nat.reduceGT, Int.reduceAdd, Int.reduceSub, Int.reduceMul, Int.reduceNeg, Int.reduceLT, Int.reduceLE, Int.reduceEq, Int.reduceNe, Int.reduceBEq, Int.reduceBNe, Int.reduceToNat, Int.reduceGT, Int.reduceGE, ↓reduceIte, decide_true, decide_false, eq_self, Nat.mul_one, Nat.zero_mul, Nat.one_mul, Int.le_refl, Nat.le_refl, Int.cast_ofNat_Int, Try.f14, unVials_eq, ic_ints, unI_eq, hl, hpe, hch, b10, c1, hk, i1, hd, hdy', Vial.cs, ic, w1, w2, w3, w4, w5, hxo, hlen, bne_self_eq_false, beq_self_eq_true, e1, e2, e3, e4, e5, e6, e7, e8, e9, e10, e11, e12, e13, e14, e15, e16, e17, hin, hii, hvo, hdv, hdi, hT, hfl, TE.t, Span.t, Span.cs, unRds, inB_t1, inB_t2, g1c, g2c, g3c, hwid, hy1, hy2', hreach]
            refine pwpC_loopU (A := { a : Nat // a ≤ (2 * x.marks - 2 * x.l1 + 1).toNat }) [6, 22] (fun a => [(25, .t (.int .i64 (x.l1 + (a.1 : Nat)))), (24, .t (.int .i64 (wideTo x a.1)))]) (fun _ => []) (fun a => (2 * x.marks - 2 * x.l1 + 1).toNat - a.1) ⟨0, by omega⟩ (by decide) (fun _ => by rfl) ?_ fun Q hQ ⟨a, ha⟩ I hI => ?_
            · simp (decide := true) (maxSteps := 4000000) only [go_sem, Nat.reduceAdd, Nat.reduceSub, Nat.reduceMul, Nat.reduceDiv, Nat.reduceMod, Nat.reduceLT, Nat.reduceLeDiff, Nat.reduceEqDiff, Nat.reduceBEq, Nat.reduceBNe, Nat.reduceGT, Int.reduceAdd, Int.reduceSub, Int.reduceMul, Int.reduceNeg, Int.reduceLT, Int.reduceLE, Int.reduceEq, Int.reduceNe, Int.reduceBEq, Int.reduceBNe, Int.reduceToNat, Int.reduceGT, Int.reduceGE, ↓reduceIte, decide_true, decide_false, eq_self, Nat.mul_one, Nat.zero_mul, Nat.one_mul, Int.le_refl, Nat.le_refl, Int.cast_ofNat_Int, Int.add_zero, Int.cast_ofNat_Int]
              first | done | rfl
            · by_cases hlt : x.l1 + (a : Nat) ≤ 2 * x.marks - x.l1
              · have ws := wideTo_succ x a
                unfold wideM at ws
                have m1 := mulB (a := x.l1 + (a : Nat) - x.z0 + x.wr) (b := x.v0) (by omega) (by omega)
                have m2 := mulB (a := x.l1 + (a : Nat) - x.z0 + x.wr) (b := x.v1) (by omega) (by omega)
                have m3 := mulB (a := x.l1 + (a : Nat) - x.z1 - x.wr) (b := x.v0) (by omega) (by omega)
                have m4 := mulB (a := x.l1 + (a : Nat) - x.z1 - x.wr) (b := x.v1) (by omega) (by omega)
                have u1 := wrap_in (n := x.l1 + (a : Nat) - x.z1) (by omega) (by omega)
                have u2 := wrap_in (n := x.l1 + (a : Nat) - x.z1 - x.wr) (by omega) (by omega)
                have u3 := wrap_in (n := x.l1 + (a : Nat) - x.z0) (by omega) (by omega)
                have u4 := wrap_in (n := x.l1 + (a : Nat) - x.z0 + x.wr) (by omega) (by omega)
                have u5 := wrap_in (n := (x.l1 + (a : Nat) - x.z0 + x.wr) * x.v0) (by omega) (by omega)
                have u6 := wrap_in (n := (x.l1 + (a : Nat) - x.z0 + x.wr) * x.v1) (by omega) (by omega)
                have u7 := wrap_in (n := (x.l1 + (a : Nat) - x.z1 - x.wr) * x.v0) (by omega) (by omega)
                have u8 := wrap_in (n := (x.l1 + (a : Nat) - x.z1 - x.wr) * x.v1) (by omega) (by omega)
                have u9 := wrap_in (n := max ((x.l1 + (a : Nat) - x.z0 + x.wr) * x.v0) ((x.l1 + (a : Nat) - x.z0 + x.wr) * x.v1) - min ((x.l1 + (a : Nat) - x.z1 - x.wr) * x.v0) ((x.l1 + (a : Nat) - x.z1 - x.wr) * x.v1)) (by omega) (by omega)
                have hc1 : IntKind.i64.wrap (x.l1 + (a : Nat) + 1) = x.l1 + ((a + 1 : Nat) : Int) := by rw [wrap_in (by omega) (by omega)]; omega
                simp (decide := true) (maxSteps := 4000000) only [go_sem, Nat.reduceAdd, Nat.reduceSub, Nat.reduceMul, Nat.reduceDiv, Nat.reduceMod, Nat.reduceLT, Nat.reduceLeDiff, Nat.reduceEqDiff, Nat.reduceBEq, Nat.reduceBNe, Nat.reduceGT, Int.reduceAdd, Int.reduceSub, Int.reduceMul, Int.reduceNeg, Int.reduceLT, Int.reduceLE, Int.reduceEq, Int.reduceNe, Int.reduceBEq, Int.reduceBNe, Int.reduceToNat, Int.reduceGT, Int.reduceGE, ↓reduceIte, decide_true, decide_false, eq_self, Nat.mul_one, Nat.zero_mul, Nat.one_mul, Int.le_refl, Nat.le_refl, Int.cast_ofNat_Int, hlt, w1, w2, u1, u2, u3, u4, u5, u6, u7, u8, u9]
                refine hI _ ⟨a + 1, by omega⟩ (by simp only; omega) ?_
                simp (decide := true) (maxSteps := 4000000) only [go_sem, Nat.reduceAdd, Nat.reduceSub, Nat.reduceMul, Nat.reduceDiv, Nat.reduceMod, Nat.reduceLT, Nat.reduceLeDiff, Nat.reduceEqDiff, Nat.reduceBEq, Nat.reduceBNe, Nat.reduceGT, Int.reduceAdd, Int.reduceSub, Int.reduceMul, Int.reduceNeg, Int.reduceLT, Int.reduceLE, Int.reduceEq, Int.reduceNe, Int.reduceBEq, Int.reduceBNe, Int.reduceToNat, Int.reduceGT, Int.reduceGE, ↓reduceIte, decide_true, decide_false, eq_self, Nat.mul_one, Nat.zero_mul, Nat.one_mul, Int.le_refl, Nat.le_refl, Int.cast_ofNat_Int, hc1, ws]
              · have hae : a = (2 * x.marks - 2 * x.l1 + 1).toNat := by omega
                subst hae
                simp (decide := true) (maxSteps := 4000000) only [go_sem, Nat.reduceAdd, Nat.reduceSub, Nat.reduceMul, Nat.reduceDiv, Nat.reduceMod, Nat.reduceLT, Nat.reduceLeDiff, Nat.reduceEqDiff, Nat.reduceBEq, Nat.reduceBNe, Nat.reduceGT, Int.reduceAdd, Int.reduceSub, Int.reduceMul, Int.reduceNeg, Int.reduceLT, Int.reduceLE, Int.reduceEq, Int.reduceNe, Int.reduceBEq, Int.reduceBNe, Int.reduceToNat, Int.reduceGT, Int.reduceGE, ↓reduceIte, decide_true, decide_false, eq_self, Nat.mul_one, Nat.zero_mul, Nat.one_mul, Int.le_refl, Nat.le_refl, Int.cast_ofNat_Int, hlt, w1, w2]
                refine hQ _ _ ?_
                simp (decide := true) (maxSteps := 4000000) only [go_sem, Nat.reduceAdd, Nat.reduceSub, Nat.reduceMul, Nat.reduceDiv, Nat.reduceMod, Nat.reduceLT, Nat.reduceLeDiff, Nat.reduceEqDiff, Nat.reduceBEq, Nat.reduceBNe, Nat.reduceGT, Int.reduceAdd, Int.reduceSub, Int.reduceMul, Int.reduceNeg, Int.reduceLT, Int.reduceLE, Int.reduceEq, Int.reduceNe, Int.reduceBEq, Int.reduceBNe, Int.reduceToNat, Int.reduceGT, Int.reduceGE, ↓reduceIte, decide_true, decide_false, eq_self, Nat.mul_one, Nat.zero_mul, Nat.one_mul, Int.le_refl, Nat.le_refl, Int.cast_ofNat_Int, hwide]
end Go.Proofs.Ytgofljmnlfnlnaa
