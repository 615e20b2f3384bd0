/- What the claim leans on, text 6. -/
import Derived.Test.YtgofljmnlfnlnaaC5
set_option linter.unusedSimpArgs false
set_option linter.unusedVariables false

/- Part Mi. -/
namespace Go.Oc
open Go Go.Pm Go.Proofs.Ytgofljmnlfnlnaa
/-- Is a tilt met with one of so many zeros, and an end of the value? -/
def metT (v : Vial) (l : List Mk) (t : Int) (j : Nat) : Bool := (List.range j).any fun i => canB v l v.v0 (v.z0 + (i : Int)) t || canB v l v.v1 (v.z0 + (i : Int)) t
theorem metT_succ (v : Vial) (l : List Mk) (t : Int) (j : Nat) : metT v l t (j + 1) = (metT v l t j || (canB v l v.v0 (v.z0 + (j : Int)) t || canB v l v.v1 (v.z0 + (j : Int)) t)) := by
  unfold metT; rw [List.range_succ, List.any_append]; simp
/-- Is a zero met, with one of so many tilts? -/
def metZ (v : Vial) (l : List Mk) (z : Int) (i : Nat) : Bool := (List.range i).any fun k => canB v l v.v0 z (((k : Int) - 408) * v.v0)
theorem metZ_succ (v : Vial) (l : List Mk) (z : Int) (i : Nat) : metZ v l z (i + 1) = (metZ v l z i || canB v l v.v0 z (((i : Int) - 408) * v.v0)) := by
  unfold metZ; rw [List.range_succ, List.any_append]; simp
theorem met_of {v : Vial} (hv : v.ok = true) {l : List Mk} (hm : mksOk l = true) (h1 : 1 ≤ l.length) {z t : Int} (hz : feas v l z) (ht : ((withinS v.wr l z).lo * v.v0 = t ∨ (withinS v.wr l z).hi * v.v0 = t) ∨ ((withinS v.wr l z).lo * v.v1 = t ∨ (withinS v.wr l z).hi * v.v1 = t)) :
    metT v l t (v.z1 - v.z0 + 1).toNat = true := by
  have hv' := Vial.ok_iff.1 hv
  unfold metT
  rw [List.any_eq_true]
  have hzr := hz.1
  refine ⟨(z - v.z0).toNat, List.mem_range.2 (by omega), ?_⟩
  rw [show v.z0 + ((z - v.z0).toNat : Int) = z by omega, Bool.or_eq_true, ← within_can hv hm h1 (by omega) (by omega) hz.1.1 hz.1.2, ← within_can hv hm h1 (by omega) (by omega) hz.1.1 hz.1.2]
  simp only [Bool.and_eq_true, decide_eq_true_eq, inB_iff]
  have h2 := hz.2
  have a := Int.mul_le_mul_of_nonneg_right (c := v.v0) h2 (by omega)
  have b := Int.mul_le_mul_of_nonneg_right (c := v.v1) h2 (by omega)
  rcases ht with ht | ht
  · left; omega
  · right; omega
theorem ends_met {v : Vial} (hv : v.ok = true) {l : List Rd} (hr : rdsOk v l = true) (hi : (tilts v (l.map mid)).is = true) :
    metT v (l.map mid) (tilts v (l.map mid)).tilt.lo (v.z1 - v.z0 + 1).toNat = true ∧ metT v (l.map mid) (tilts v (l.map mid)).tilt.hi (v.z1 - v.z0 + 1).toNat = true ∧
    metZ v (l.map mid) (tilts v (l.map mid)).zero.lo 817 = true ∧ metZ v (l.map mid) (tilts v (l.map mid)).zero.hi 817 = true := by
  have hv' := Vial.ok_iff.1 hv
  have hm := mksOk_mid hv hr
  have h8 := rdsOk_len hr
  have h1 : 1 ≤ (l.map mid).length := by rw [List.length_map]; omega
  obtain ⟨⟨z1, f1, e1⟩, ⟨z2, f2, e2⟩, f3, f4⟩ := tilts_at hi
  have zm : ∀ z, feas v (l.map mid) z → metZ v (l.map mid) z 817 = true := fun z hz => by
    have hz2 := hz.2
    obtain ⟨m, hmm⟩ : ∃ m, m ∈ l.map mid := by
      cases hl : l.map mid with
      | nil => rw [hl] at h1; simp at h1
      | cons m _ => exact ⟨m, List.mem_cons_self⟩
    have ho := outM_b (z := z) (List.all_eq_true.1 hm m hmm) (by have := hz.1; omega)
    have k1 := (fold_in_iff (w := v.wr) (z := z) (c := 1) (t := (withinS v.wr (l.map mid) z).lo) (by omega) (l.map mid) ⟨-10000, 10000⟩).1 (by
      rw [show (l.map mid).foldl (inS v.wr z) ⟨-10000, 10000⟩ = withinS v.wr (l.map mid) z from rfl]; omega)
    have k2 := k1.2 m hmm
    unfold metZ
    rw [List.any_eq_true]
    refine ⟨((withinS v.wr (l.map mid) z).lo + 408).toNat, List.mem_range.2 (by omega), ?_⟩
    rw [show (((withinS v.wr (l.map mid) z).lo + 408).toNat : Int) - 408 = (withinS v.wr (l.map mid) z).lo by omega, ← within_can hv hm h1 (by omega) (by omega) hz.1.1 hz.1.2]
    simp only [Bool.and_eq_true, decide_eq_true_eq, inB_iff]
    have a := Int.mul_le_mul_of_nonneg_right (c := v.v0) hz2 (by omega)
    omega
  refine ⟨met_of hv hm h1 f1 ?_, met_of hv hm h1 f2 ?_, zm _ f3, zm _ f4⟩
  · rw [e1]; unfold leastP; omega
  · rw [e2]; unfold mostP; omega
end Go.Oc
namespace Go.Proofs.Ytgofljmnlfnlnaa
open Go.RowKit Go.Pm Go.Oc
set_option maxRecDepth 100000
set_option linter.unusedVariables false
set_option maxHeartbeats 4000000

theorem orNot (m c : Bool) : (m || !m && c) = (m || c) := by cases m <;> cases c <;> rfl
theorem oSound_c (v : Vial) : PCalls Try.prog 33 [v.t] (.bool v.ok) := by
  refine pcalls_by Try.mixes spO1_ok (fn := Try.f33) Try.func33 rfl (by kernel_rfl) (by show 1 ≤ _; decide) ?_
  cases hv : v.ok with
  | false => simp (decide := true) (maxSteps := 4000000) only [go_sem, Nat.reduceAdd, Nat.reduceSub, Nat.reduceMul, Nat.reduceDiv, Nat.reduceMod, Nat.reduceLT, Nat.reduceLeDiff, Nat.reduceEqDiff, Nat.reduceBEq, Nat.reduceBNe, Nat.reduceGT, Int.reduceAdd, Int.reduceSub, Int.reduceMul, Int.reduceNeg, Int.reduceLT, Int.reduceLE, Int.reduceEq, Int.reduceNe, Int.reduceBEq, Int.reduceBNe, Int.reduceToNat, Int.reduceGT, Int.reduceGE, ↓reduceIte, decide_true, decide_false, eq_self, Nat.mul_one, Nat.zero_mul, Nat.one_mul, Int.le_refl, Nat.le_refl, Int.cast_ofNat_Int, Try.f33, Vial.t, Vial.cs, hv]
  | true =>
    have hv' := Vial.ok_iff.1 hv
    have h1 : inB v.marks 10 200 = true := inB_iff.2 (by omega)
    have h2 : spannedB ⟨v.z0, v.z1⟩ 0 400 = true := by simp [spannedB]; omega
    have h3 : spannedB ⟨v.v0, v.v1⟩ 1 500 = true := by simp [spannedB]; omega
    have h4 : inB v.wr 0 8 = true := inB_iff.2 (by omega)
    have h5 : spannedB ⟨v.l0, v.l1⟩ 1 v.marks = true := by simp [spannedB]; omega
    simp (decide := true) (maxSteps := 4000000) only [go_sem, Nat.reduceAdd, Nat.reduceSub, Nat.reduceMul, Nat.reduceDiv, Nat.reduceMod, Nat.reduceLT, Nat.reduceLeDiff, Nat.reduceEqDiff, Nat.reduceBEq, Nat.reduceBNe, Nat.reduceGT, Int.reduceAdd, Int.reduceSub, Int.reduceMul, Int.reduceNeg, Int.reduceLT, Int.reduceLE, Int.reduceEq, Int.reduceNe, Int.reduceBEq, Int.reduceBNe, Int.reduceToNat, Int.reduceGT, Int.reduceGE, ↓reduceIte, decide_true, decide_false, eq_self, Nat.mul_one, Nat.zero_mul, Nat.one_mul, Int.le_refl, Nat.le_refl, Int.cast_ofNat_Int, Try.f33, Vial.t, Vial.cs, hv, h1, h2, h3, h4, h5]
noncomputable def goSound : List TV → Option TV
  | [.agg [.int .i64 m, .int .i64 a, .int .i64 b, .int .i64 c, .int .i64 d, .int .i64 e, .int .i64 f, .int .i64 g]] => some (.bool (Vial.ok ⟨m, a, b, c, d, e, f, g⟩))
  | _ => none
theorem goSound_ok : ∀ xs r, goSound xs = some r → PCalls Try.prog 33 xs r := by
  intro xs r h
  unfold goSound at h
  split at h
  · cases h; exact oSound_c ⟨_, _, _, _, _, _, _, _⟩
  · cases h
attribute [go_sem] goSound
noncomputable def spS1 : Pm.Spec := spO1.one 33 goSound
@[go_sem] theorem spS1_p (f : FuncId) (xs : List TV) : spS1.p f xs = Pm.Spec.p (spO1.one 33 goSound) f xs := rfl
@[go_sem] theorem spS1_h (f : FuncId) (ps : List PV) (hl : List PO) : spS1.h f ps hl = Pm.Spec.h (spO1.one 33 goSound) f ps hl := rfl
@[go_sem] theorem spS1_fz (f : FuncId) : spS1.fz f = Pm.Spec.fz (spO1.one 33 goSound) f := rfl
@[go_sem] theorem spS1_fr (f : FuncId) : spS1.fr f = Pm.Spec.fr (spO1.one 33 goSound) f := rfl
@[go_sem] theorem spS1_mu (t : TypeId) : spS1.mu t = Pm.Spec.mu (spO1.one 33 goSound) t := rfl
theorem spS1_ok : SpecOk Try.prog spS1 := Spec.one_ok goSound_ok spO1_ok
noncomputable def spS2 : Pm.Spec := { spS1 with mu := fun t => t == 54 }
theorem spS2_ok : SpecOk Try.prog spS2 := ⟨spS1_ok.1, spS1_ok.2⟩
@[go_sem] theorem spS2_p (f : FuncId) (xs : List TV) : spS2.p f xs = spS1.p f xs := rfl
@[go_sem] theorem spS2_h (f : FuncId) (ps : List PV) (hl : List PO) : spS2.h f ps hl = spS1.h f ps hl := rfl
@[go_sem] theorem spS2_fz (f : FuncId) : spS2.fz f = spS1.fz f := rfl
@[go_sem] theorem spS2_fr (f : FuncId) : spS2.fr f = spS1.fr f := rfl
@[go_sem] theorem spS2_mu (t : TypeId) : spS2.mu t = (t == 54) := rfl
attribute [go_sem] popM
theorem LevelEnds_c (v : Vial) {l : List Rd} {s : TV} (hs : IsRow Rd.cs s l) (hl : l.length ≤ 5864062014806) : PCalls Try.prog 9 [v.t, s] (.bool true) := by
  refine pcalls_by Try.mixes spS2_ok (fn := Try.f9) Try.func9 rfl (by kernel_rfl) (by show 2 ≤ _; decide) ?_
  obtain ⟨T, hT⟩ : ∃ T, tiltR v l = T := ⟨_, rfl⟩
  have hte := tilt_e v l
  rw [hT] at hte
  obtain ⟨⟨t0, t1⟩, ⟨z0, z1⟩, te⟩ := T
  simp only [Span.mk.injEq] at hte
  by_cases h0 : te = 0
  · subst h0
    have hk : asked v l = 0 := by
      unfold tiltR at hT
      by_cases h : asked v l = 0
      · exact h
      · rw [if_neg h] at hT; exact congrArg TE.e hT
    obtain ⟨hv, hr⟩ := asked_zero hk
    have hv' := Vial.ok_iff.1 hv
    have h8 := rdsOk_len hr
    obtain ⟨full, rfl⟩ := hs.ne h8.1
    have hcan : ∀ tv z tt, v.v0 ≤ tv → tv ≤ v.v1 → v.z0 ≤ z → z ≤ v.z1 → canP v l tv z tt = (canB v (l.map mid) tv z tt, 0) := fun tv z tt a b c d => by
      unfold canP
      rw [if_pos hk, if_pos ⟨inB_iff.2 ⟨a, b⟩, inB_iff.2 ⟨c, d⟩⟩]
    obtain ⟨hi, e1, e2⟩ : (tilts v (l.map mid)).is = true ∧ (tilts v (l.map mid)).tilt = ⟨t0, t1⟩ ∧ (tilts v (l.map mid)).zero = ⟨z0, z1⟩ := by
      unfold tiltR at hT
      rw [if_pos hk] at hT
      cases hi : (tilts v (l.map mid)).is with
      | false => rw [hi] at hT; have := congrArg TE.e hT; simp at this
      | true => rw [hi] at hT; exact ⟨rfl, congrArg TE.tilt hT, congrArg TE.zero hT⟩
    have tm0 : Int.tmod 0 2 = 0 := rfl
    have tm1 : Int.tmod 1 2 = 1 := rfl
    have tm2 : Int.tmod 2 2 = 0 := rfl
    have tm3 : Int.tmod 3 2 = 1 := rfl
    obtain ⟨q0, q1, q2, q3⟩ := ends_met hv hr hi
    rw [e1] at q0 q1
    rw [e2] at q2 q3
    obtain ⟨_, _, hz0, hz1⟩ := tilts_at hi
    rw [e2] at hz0 hz1
    simp (decide := true) (maxSteps := 4000000) only [go_sem, Nat.reduceAdd, Nat.reduceSub, Nat.reduceMul, Nat.reduceDiv, Nat.reduceMod, Nat.reduceLT, Nat.reduceLeDiff, Nat.reduceEqDiff, Nat.reduceBEq, Nat.reduceBNe, Nat.reduceGT, Int.reduceAdd, Int.reduceSub, Int.reduceMul, Int.reduceNeg, Int.reduceLT, Int.reduceLE, Int.reduceEq, Int.reduceNe, Int.reduceBEq, Int.reduceBNe, Int.reduceToNat, Int.reduceGT, Int.reduceGE, ↓reduceIte, decide_true, decide_false, eq_self, Nat.mul_one, Nat.zero_mul, Nat.one_mul, Int.le_refl, Nat.le_refl, Int.cast_ofNat_Int, Try.f9, Vial.t, Vial.cs, hT, hv, hl, TE.t, Span.t, Span.cs]
    refine pwpC_loopU (A := { j : Nat // j ≤ (v.z1 - v.z0 + 1).toNat }) [1, 2, 5, 6, 8] (fun j => [(9, .t (.int .i64 (v.z0 + (j.1 : Nat))))]) (fun j => [(3, .grow 0 [.t (.bool (metT v (l.map mid) t0 j.1)), .t (.bool (metT v (l.map mid) t1 j.1)), .t (.bool false), .t (.bool false)] 4 1)]) (fun j => (v.z1 - v.z0 + 1).toNat - j.1) ⟨0, by omega⟩ (by decide) (fun _ => by rfl) ?_ fun Q1 hQ1 ⟨j, hj⟩ I1 hI1 => ?_
    · simp (decide := true) (maxSteps := 4000000) only [go_sem, Nat.reduceAdd, Nat.reduceSub, Nat.reduceMul, Nat.reduceDiv, Nat.reduceMod, Nat.reduceLT, Nat.reduceLeDiff, Nat.reduceEqDiff, Nat.reduceBEq, Nat.reduceBNe, Nat.reduceGT, Int.reduceAdd, Int.reduceSub, Int.reduceMul, Int.reduceNeg, Int.reduceLT, Int.reduceLE, Int.reduceEq, Int.reduceNe, Int.reduceBEq, Int.reduceBNe, Int.reduceToNat, Int.reduceGT, Int.reduceGE, ↓reduceIte, decide_true, decide_false, eq_self, Nat.mul_one, Nat.zero_mul, Nat.one_mul, Int.le_refl, Nat.le_refl, Int.cast_ofNat_Int, metT, Int.add_zero]
      exact ⟨rfl, rfl⟩
    · by_cases hlt : v.z0 + (j : Nat) ≤ v.z1
      · have g00 := hcan v.v0 (v.z0 + (j : Nat)) t0 (by omega) (by omega) (by omega) hlt
        have g01 := hcan v.v0 (v.z0 + (j : Nat)) t1 (by omega) (by omega) (by omega) hlt
        have g10 := hcan v.v1 (v.z0 + (j : Nat)) t0 (by omega) (by omega) (by omega) hlt
        have g11 := hcan v.v1 (v.z0 + (j : Nat)) t1 (by omega) (by omega) (by omega) hlt
        have hs0 := metT_succ v (l.map mid) t0 j
        have hs1 := metT_succ v (l.map mid) t1 j
        generalize metT v (l.map mid) t0 j = m0 at hs0 ⊢
        generalize metT v (l.map mid) t1 j = m1 at hs1 ⊢
        generalize canB v (l.map mid) v.v0 (v.z0 + (j : Nat)) t0 = b00 at g00 hs0
        generalize canB v (l.map mid) v.v0 (v.z0 + (j : Nat)) t1 = b01 at g01 hs1
        generalize canB v (l.map mid) v.v1 (v.z0 + (j : Nat)) t0 = b10 at g10 hs0
        generalize canB v (l.map mid) v.v1 (v.z0 + (j : Nat)) t1 = b11 at g11 hs1
        have hc1 : IntKind.i64.wrap (v.z0 + (j : Nat) + 1) = v.z0 + ((j + 1 : Nat) : Int) := by rw [wrap_in (by omega) (by omega)]; omega
        simp (decide := true) (maxSteps := 4000000) only [go_sem, Nat.reduceAdd, Nat.reduceSub, Nat.reduceMul, Nat.reduceDiv, Nat.reduceMod, Nat.reduceLT, Nat.reduceLeDiff, Nat.reduceEqDiff, Nat.reduceBEq, Nat.reduceBNe, Nat.reduceGT, Int.reduceAdd, Int.reduceSub, Int.reduceMul, Int.reduceNeg, Int.reduceLT, Int.reduceLE, Int.reduceEq, Int.reduceNe, Int.reduceBEq, Int.reduceBNe, Int.reduceToNat, Int.reduceGT, Int.reduceGE, ↓reduceIte, decide_true, decide_false, eq_self, Nat.mul_one, Nat.zero_mul, Nat.one_mul, Int.le_refl, Nat.le_refl, Int.cast_ofNat_Int, hlt]
        refine pwpC_loopU (A := { k : Nat // k ≤ 4 }) [1, 2, 5, 6, 8, 9] (fun k => [(10, .t (.int .i64 (k.1 : Nat)))]) (fun k => [(3, .grow 0 [.t (.bool (m0 || (decide (1 ≤ k.1) && b00) || (decide (3 ≤ k.1) && b10))), .t (.bool (m1 || (decide (2 ≤ k.1) && b01) || (decide (4 ≤ k.1) && b11))), .t (.bool false), .t (.bool false)] 4 1)]) (fun k => 4 - k.1) ⟨0, by omega⟩ (by decide) (fun _ => by rfl) ?_ fun Q2 hQ2 ⟨k, hk4⟩ I2 hI2 => ?_
        · simp (decide := true) (maxSteps := 4000000) only [go_sem, Nat.reduceAdd, Nat.reduceSub, Nat.reduceMul, Nat.reduceDiv, Nat.reduceMod, Nat.reduceLT, Nat.reduceLeDiff, Nat.reduceEqDiff, Nat.reduceBEq, Nat.reduceBNe, Nat.reduceGT, Int.reduceAdd, Int.reduceSub, Int.reduceMul, Int.reduceNeg, Int.reduceLT, Int.reduceLE, Int.reduceEq, Int.reduceNe, Int.reduceBEq, Int.reduceBNe, Int.reduceToNat, Int.reduceGT, Int.reduceGE, ↓reduceIte, decide_true, decide_false, eq_self, Nat.mul_one, Nat.zero_mul, Nat.one_mul, Int.le_refl, Nat.le_refl, Int.cast_ofNat_Int]
        · rcases (show k = 0 ∨ k = 1 ∨ k = 2 ∨ k = 3 ∨ k = 4 by omega) with rfl | rfl | rfl | rfl | rfl
          · simp (decide := true) (maxSteps := 4000000) only [go_sem, Nat.reduceAdd, Nat.reduceSub, Nat.reduceMul, Nat.reduceDiv, Nat.reduceMod, Nat.reduceLT, Nat.reduceLeDiff, Nat.reduceEqDiff, Nat.reduceBEq, Nat.reduceBNe, Nat.reduceGT, Int.reduceAdd, Int.reduceSub, Int.reduceMul, Int.reduceNeg, Int.reduceLT, Int.reduceLE, Int.reduceEq, Int.reduceNe, Int.reduceBEq, Int.reduceBNe, Int.reduceToNat, Int.reduceGT, Int.reduceGE, ↓reduceIte, decide_true, decide_false, eq_self, Nat.mul_one, Nat.zero_mul, Nat.one_mul, Int.le_refl, Nat.le_refl, Int.cast_ofNat_Int, g00, g01, g10, g11, hl, tm0, tm1, tm2, tm3]
            refine hI2 _ ⟨1, by omega⟩ (by simp) ?_
            simp (decide := true) (maxSteps := 4000000) only [go_sem, Nat.reduceAdd, Nat.reduceSub, Nat.reduceMul, Nat.reduceDiv, Nat.reduceMod, Nat.reduceLT, Nat.reduceLeDiff, Nat.reduceEqDiff, Nat.reduceBEq, Nat.reduceBNe, Nat.reduceGT, Int.reduceAdd, Int.reduceSub, Int.reduceMul, Int.reduceNeg, Int.reduceLT, Int.reduceLE, Int.reduceEq, Int.reduceNe, Int.reduceBEq, Int.reduceBNe, Int.reduceToNat, Int.reduceGT, Int.reduceGE, ↓reduceIte, decide_true, decide_false, eq_self, Nat.mul_one, Nat.zero_mul, Nat.one_mul, Int.le_refl, Nat.le_refl, Int.cast_ofNat_Int]
            try simp
            cases m0 <;> cases m1 <;> cases b00 <;> cases b01 <;> cases b10 <;> cases b11 <;> rfl
          · simp (decide := true) (maxSteps := 4000000) only [go_sem, Nat.reduceAdd, Nat.reduceSub, Nat.reduceMul, Nat.reduceDiv, Nat.reduceMod, Nat.reduceLT, Nat.reduceLeDiff, Nat.reduceEqDiff, Nat.reduceBEq, Nat.reduceBNe, Nat.reduceGT, Int.reduceAdd, Int.reduceSub, Int.reduceMul, Int.reduceNeg, Int.reduceLT, Int.reduceLE, Int.reduceEq, Int.reduceNe, Int.reduceBEq, Int.reduceBNe, Int.reduceToNat, Int.reduceGT, Int.reduceGE, ↓reduceIte, decide_true, decide_false, eq_self, Nat.mul_one, Nat.zero_mul, Nat.one_mul, Int.le_refl, Nat.le_refl, Int.cast_ofNat_Int, g00, g01, g10, g11, hl, tm0, tm1, tm2, tm3]
            refine hI2 _ ⟨2, by omega⟩ (by simp) ?_
            simp (decide := true) (maxSteps := 4000000) only [go_sem, Nat.reduceAdd, Nat.reduceSub, Nat.reduceMul, Nat.reduceDiv, Nat.reduceMod, Nat.reduceLT, Nat.reduceLeDiff, Nat.reduceEqDiff, Nat.reduceBEq, Nat.reduceBNe, Nat.reduceGT, Int.reduceAdd, Int.reduceSub, Int.reduceMul, Int.reduceNeg, Int.reduceLT, Int.reduceLE, Int.reduceEq, Int.reduceNe, Int.reduceBEq, Int.reduceBNe, Int.reduceToNat, Int.reduceGT, Int.reduceGE, ↓reduceIte, decide_true, decide_false, eq_self, Nat.mul_one, Nat.zero_mul, Nat.one_mul, Int.le_refl, Nat.le_refl, Int.cast_ofNat_Int]
            try simp
            cases m0 <;> cases m1 <;> cases b00 <;> cases b01 <;> cases b10 <;> cases b11 <;> rfl
          · simp (decide := true) (maxSteps := 4000000) only [go_sem, Nat.reduceAdd, Nat.reduceSub, Nat.reduceMul, Nat.reduceDiv, Nat.reduceMod, Nat.reduceLT, Nat.reduceLeDiff, Nat.reduceEqDiff, Nat.reduceBEq, Nat.reduceBNe, Nat.reduceGT, Int.reduceAdd, Int.reduceSub, Int.reduceMul, Int.reduceNeg, Int.reduceLT, Int.reduceLE, Int.reduceEq, Int.reduceNe, Int.reduceBEq, Int.reduceBNe, Int.reduceToNat, Int.reduceGT, Int.reduceGE, ↓reduceIte, decide_true, decide_false, eq_self, Nat.mul_one, Nat.zero_mul, Nat.one_mul, Int.le_refl, Nat.le_refl, Int.cast_ofNat_Int, g00, g01, g10, g11, hl, tm0, tm1, tm2, tm3]
            refine hI2 _ ⟨3, by omega⟩ (by simp) ?_
            simp (decide := true) (maxSteps := 4000000) only [go_sem, Nat.reduceAdd, Nat.reduceSub, Nat.reduceMul, Nat.reduceDiv, Nat.reduceMod, Nat.reduceLT, Nat.reduceLeDiff, Nat.reduceEqDiff, Nat.reduceBEq, Nat.reduceBNe, Nat.reduceGT, Int.reduceAdd, Int.reduceSub, Int.reduceMul, Int.reduceNeg, Int.reduceLT, Int.reduceLE, Int.reduceEq, Int.reduceNe, Int.reduceBEq, Int.reduceBNe, Int.reduceToNat, Int.reduceGT, Int.reduceGE, ↓reduceIte, decide_true, decide_false, eq_self, Nat.mul_one, Nat.zero_mul, Nat.one_mul, Int.le_refl, Nat.le_refl, Int.cast_ofNat_Int]
            try simp
            cases m0 <;> cases m1 <;> cases b00 <;> cases b01 <;> cases b10 <;> cases b11 <;> rfl
          · simp (decide := true) (maxSteps := 4000000) only [go_sem, Nat.reduceAdd, Nat.reduceSub, Nat.reduceMul, Nat.reduceDiv, Nat.reduceMod, Nat.reduceLT, Nat.reduceLeDiff, Nat.reduceEqDiff, Nat.reduceBEq, Nat.reduceBNe, Nat.reduceGT, Int.reduceAdd, Int.reduceSub, Int.reduceMul, Int.reduceNeg, Int.reduceLT, Int.reduceLE, Int.reduceEq, Int.reduceNe, Int.reduceBEq, Int.reduceBNe, Int.reduceToNat, Int.reduceGT, Int.reduceGE, ↓reduceIte, decide_true, decide_false, eq_self, Nat.mul_one, Nat.zero_mul, Nat.one_mul, Int.le_refl, Nat.le_refl, Int.cast_ofNat_Int, g00, g01, g10, g11, hl, tm0, tm1, tm2, tm3]
            refine hI2 _ ⟨4, by omega⟩ (by simp) ?_
            simp (decide := true) (maxSteps := 4000000) only [go_sem, Nat.reduceAdd, Nat.reduceSub, Nat.reduceMul, Nat.reduceDiv, Nat.reduceMod, Nat.reduceLT, Nat.reduceLeDiff, Nat.reduceEqDiff, Nat.reduceBEq, Nat.reduceBNe, Nat.reduceGT, Int.reduceAdd, Int.reduceSub, Int.reduceMul, Int.reduceNeg, Int.reduceLT, Int.reduceLE, Int.reduceEq, Int.reduceNe, Int.reduceBEq, Int.reduceBNe, Int.reduceToNat, Int.reduceGT, Int.reduceGE, ↓reduceIte, decide_true, decide_false, eq_self, Nat.mul_one, Nat.zero_mul, Nat.one_mul, Int.le_refl, Nat.le_refl, Int.cast_ofNat_Int]
            try simp
            cases m0 <;> cases m1 <;> cases b00 <;> cases b01 <;> cases b10 <;> cases b11 <;> rfl
          · simp (decide := true) (maxSteps := 4000000) only [go_sem, Nat.reduceAdd, Nat.reduceSub, Nat.reduceMul, Nat.reduceDiv, Nat.reduceMod, Nat.reduceLT, Nat.reduceLeDiff, Nat.reduceEqDiff, Nat.reduceBEq, Nat.reduceBNe, Nat.reduceGT, Int.reduceAdd, Int.reduceSub, Int.reduceMul, Int.reduceNeg, Int.reduceLT, Int.reduceLE, Int.reduceEq, Int.reduceNe, Int.reduceBEq, Int.reduceBNe, Int.reduceToNat, Int.reduceGT, Int.reduceGE, ↓reduceIte, decide_true, decide_false, eq_self, Nat.mul_one, Nat.zero_mul, Nat.one_mul, Int.le_refl, Nat.le_refl, Int.cast_ofNat_Int]
            refine hQ2 _ _ ?_
            simp (decide := true) (maxSteps := 4000000) only [go_sem, Nat.reduceAdd, Nat.reduceSub, Nat.reduceMul, Nat.reduceDiv, Nat.reduceMod, Nat.reduceLT, Nat.reduceLeDiff, Nat.reduceEqDiff, Nat.reduceBEq, Nat.reduceBNe, Nat.reduceGT, Int.reduceAdd, Int.reduceSub, Int.reduceMul, Int.reduceNeg, Int.reduceLT, Int.reduceLE, Int.reduceEq, Int.reduceNe, Int.reduceBEq, Int.reduceBNe, Int.reduceToNat, Int.reduceGT, Int.reduceGE, ↓reduceIte, decide_true, decide_false, eq_self, Nat.mul_one, Nat.zero_mul, Nat.one_mul, Int.le_refl, Nat.le_refl, Int.cast_ofNat_Int]
            refine hI1 _ ⟨j + 1, by omega⟩ (by simp only; omega) ?_
            simp (decide := true) (maxSteps := 4000000) only [go_sem, Nat.reduceAdd, Nat.reduceSub, Nat.reduceMul, Nat.reduceDiv, Nat.reduceMod, Nat.reduceLT, Nat.reduceLeDiff, Nat.reduceEqDiff, Nat.reduceBEq, Nat.reduceBNe, Nat.reduceGT, Int.reduceAdd, Int.reduceSub, Int.reduceMul, Int.reduceNeg, Int.reduceLT, Int.reduceLE, Int.reduceEq, Int.reduceNe, Int.reduceBEq, Int.reduceBNe, Int.reduceToNat, Int.reduceGT, Int.reduceGE, ↓reduceIte, decide_true, decide_false, eq_self, Nat.mul_one, Nat.zero_mul, Nat.one_mul, Int.le_refl, Nat.le_refl, Int.cast_ofNat_Int, hc1, hs0, hs1, Bool.or_assoc]
      · have hje : j = (v.z1 - v.z0 + 1).toNat := by omega
        subst hje
        simp (decide := true) (maxSteps := 4000000) only [go_sem, Nat.reduceAdd, Nat.reduceSub, Nat.reduceMul, Nat.reduceDiv, Nat.reduceMod, Nat.reduceLT, Nat.reduceLeDiff, Nat.reduceEqDiff, Nat.reduceBEq, Nat.reduceBNe, Nat.reduceGT, Int.reduceAdd, Int.reduceSub, Int.reduceMul, Int.reduceNeg, Int.reduceLT, Int.reduceLE, Int.reduceEq, Int.reduceNe, Int.reduceBEq, Int.reduceBNe, Int.reduceToNat, Int.reduceGT, Int.reduceGE, ↓reduceIte, decide_true, decide_false, eq_self, Nat.mul_one, Nat.zero_mul, Nat.one_mul, Int.le_refl, Nat.le_refl, Int.cast_ofNat_Int, hlt]
        refine hQ1 _ _ ?_
        simp (decide := true) (maxSteps := 4000000) only [go_sem, Nat.reduceAdd, Nat.reduceSub, Nat.reduceMul, Nat.reduceDiv, Nat.reduceMod, Nat.reduceLT, Nat.reduceLeDiff, Nat.reduceEqDiff, Nat.reduceBEq, Nat.reduceBNe, Nat.reduceGT, Int.reduceAdd, Int.reduceSub, Int.reduceMul, Int.reduceNeg, Int.reduceLT, Int.reduceLE, Int.reduceEq, Int.reduceNe, Int.reduceBEq, Int.reduceBNe, Int.reduceToNat, Int.reduceGT, Int.reduceGE, ↓reduceIte, decide_true, decide_false, eq_self, Nat.mul_one, Nat.zero_mul, Nat.one_mul, Int.le_refl, Nat.le_refl, Int.cast_ofNat_Int, q0, q1]
        refine pwpC_loopU (A := { i : Nat // i ≤ 817 }) [1, 2, 5, 6, 8] (fun i => [(15, .t (.int .i64 ((i.1 : Nat) - 408 : Int)))]) (fun i => [(3, .grow 0 [.t (.bool true), .t (.bool true), .t (.bool (metZ v (l.map mid) z0 i.1)), .t (.bool (metZ v (l.map mid) z1 i.1))] 4 1)]) (fun i => 817 - i.1) ⟨0, by omega⟩ (by decide) (fun _ => by rfl) ?_ fun Q3 hQ3 ⟨i, hi8⟩ I3 hI3 => ?_
        · simp (decide := true) (maxSteps := 4000000) only [go_sem, Nat.reduceAdd, Nat.reduceSub, Nat.reduceMul, Nat.reduceDiv, Nat.reduceMod, Nat.reduceLT, Nat.reduceLeDiff, Nat.reduceEqDiff, Nat.reduceBEq, Nat.reduceBNe, Nat.reduceGT, Int.reduceAdd, Int.reduceSub, Int.reduceMul, Int.reduceNeg, Int.reduceLT, Int.reduceLE, Int.reduceEq, Int.reduceNe, Int.reduceBEq, Int.reduceBNe, Int.reduceToNat, Int.reduceGT, Int.reduceGE, ↓reduceIte, decide_true, decide_false, eq_self, Nat.mul_one, Nat.zero_mul, Nat.one_mul, Int.le_refl, Nat.le_refl, Int.cast_ofNat_Int, metZ]
          first | done | exact ⟨rfl, rfl⟩ | skip
        · by_cases hlt3 : ((i : Nat) - 408 : Int) ≤ 408
          · have p1 := mulB (a := ((i : Nat) - 408 : Int)) (b := v.v0) (by omega) (by omega)
            have w1 := wrap_in (n := ((i : Nat) - 408 : Int) * v.v0) (by omega) (by omega)
            have g0 := hcan v.v0 z0 (((i : Nat) - 408 : Int) * v.v0) (by omega) (by omega) hz0.1.1 hz0.1.2
            have g1 := hcan v.v0 z1 (((i : Nat) - 408 : Int) * v.v0) (by omega) (by omega) hz1.1.1 hz1.1.2
            have hs0 := metZ_succ v (l.map mid) z0 i
            have hs1 := metZ_succ v (l.map mid) z1 i
            have hc1 : IntKind.i64.wrap ((i : Nat) - 408 + 1 : Int) = ((i + 1 : Nat) : Int) - 408 := by rw [wrap_in (by omega) (by omega)]; omega
            simp (decide := true) (maxSteps := 4000000) only [go_sem, Nat.reduceAdd, Nat.reduceSub, Nat.reduceMul, Nat.reduceDiv, Nat.reduceMod, Nat.reduceLT, Nat.reduceLeDiff, Nat.reduceEqDiff, Nat.reduceBEq, Nat.reduceBNe, Nat.reduceGT, Int.reduceAdd, Int.reduceSub, Int.reduceMul, Int.reduceNeg, Int.reduceLT, Int.reduceLE, Int.reduceEq, Int.reduceNe, Int.reduceBEq, Int.reduceBNe, Int.reduceToNat, Int.reduceGT, Int.reduceGE, ↓reduceIte, decide_true, decide_false, eq_self, Nat.mul_one, Nat.zero_mul, Nat.one_mul, Int.le_refl, Nat.le_refl, Int.cast_ofNat_Int, hlt3, w1, g0, g1, hl]
            refine hI3 _ ⟨i + 1, by omega⟩ (by simp only; omega) ?_
            simp (decide := true) (maxSteps := 4000000) only [go_sem, Nat.reduceAdd, Nat.reduceSub, Nat.reduceMul, Nat.reduceDiv, Nat.reduceMod, Nat.reduceLT, Nat.reduceLeDiff, Nat.reduceEqDiff, Nat.reduceBEq, Nat.reduceBNe, Nat.reduceGT, Int.reduceAdd, Int.reduceSub, Int.reduceMul, Int.reduceNeg, Int.reduceLT, Int.reduceLE, Int.reduceEq, Int.reduceNe, Int.reduceBEq, Int.reduceBNe, Int.reduceToNat, Int.reduceGT, Int.reduceGE, ↓reduceIte, decide_true, decide_false, eq_self, Nat.mul_one, Nat.zero_mul, Nat.one_mul, Int.le_refl, Nat.le_refl, Int.cast_ofNat_Int, hc1, hs0, hs1, orNot]
          · have hie : i = 817 := by omega
            subst hie
            simp (decide := true) (maxSteps := 4000000) only [go_sem, Nat.reduceAdd, Nat.reduceSub, Nat.reduceMul, Nat.reduceDiv, Nat.reduceMod, Nat.reduceLT, Nat.reduceLeDiff, Nat.reduceEqDiff, Nat.reduceBEq, Nat.reduceBNe, Nat.reduceGT, Int.reduceAdd, Int.reduceSub, Int.reduceMul, Int.reduceNeg, Int.reduceLT, Int.reduceLE, Int.reduceEq, Int.reduceNe, Int.reduceBEq, Int.reduceBNe, Int.reduceToNat, Int.reduceGT, Int.reduceGE, ↓reduceIte, decide_true, decide_false, eq_self, Nat.mul_one, Nat.zero_mul, Nat.one_mul, Int.le_refl, Nat.le_refl, Int.cast_ofNat_Int, hlt3]
            refine hQ3 _ _ ?_
            simp (decide := true) (maxSteps := 4000000) only [go_sem, Nat.reduceAdd, Nat.reduceSub, Nat.reduceMul, Nat.reduceDiv, Nat.reduceMod, Nat.reduceLT, Nat.reduceLeDiff, Nat.reduceEqDiff, Nat.reduceBEq, Nat.reduceBNe, Nat.reduceGT, Int.reduceAdd, Int.reduceSub, Int.reduceMul, Int.reduceNeg, Int.reduceLT, Int.reduceLE, Int.reduceEq, Int.reduceNe, Int.reduceBEq, Int.reduceBNe, Int.reduceToNat, Int.reduceGT, Int.reduceGE, ↓reduceIte, decide_true, decide_false, eq_self, Nat.mul_one, Nat.zero_mul, Nat.one_mul, Int.le_refl, Nat.le_refl, Int.cast_ofNat_Int, q2, q3]
  · have h0' : (te != 0) = true := by simpa using h0
    obtain ⟨⟨rfl, rfl⟩, rfl, rfl⟩ := hte.resolve_left h0
    rcases hs with ⟨rfl, rfl⟩ | ⟨full, rfl⟩ <;> simp (decide := true) (maxSteps := 4000000) only [go_sem, Nat.reduceAdd, Nat.reduceSub, Nat.reduceMul, Nat.reduceDiv, Nat.reduceMod, Nat.reduceLT, Nat.reduceLeDiff, Nat.reduceEqDiff, Nat.reduceBEq, Nat.reduceBNe, Nat.reduceGT, Int.reduceAdd, Int.reduceSub, Int.reduceMul, Int.reduceNeg, Int.reduceLT, Int.reduceLE, Int.reduceEq, Int.reduceNe, Int.reduceBEq, Int.reduceBNe, Int.reduceToNat, Int.reduceGT, Int.reduceGE, ↓reduceIte, decide_true, decide_false, eq_self, Nat.mul_one, Nat.zero_mul, Nat.one_mul, Int.le_refl, Nat.le_refl, Int.cast_ofNat_Int, Try.f9, Vial.t, Vial.cs, unRds, hT, hl, h0', TE.t, Span.t, Span.cs, List.length_nil, beq_self_eq_true]
end Go.Proofs.Ytgofljmnlfnlnaa
