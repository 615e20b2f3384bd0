/- Level: the walks of the program, 9: Next. -/
import Derived.Test.YtgofljmnlfnlnaaLb
import Derived.Test.YtgofljmnlfnlnaaLc
import Derived.Test.YtgofljmnlfnlnaaLq
import Derived.Test.YtgofljmnlfnlnaaQmZb
namespace Go.Proofs.Ytgofljmnlfnlnaa
open Go.RowKit Go.Pm Go.Oc
set_option maxRecDepth 100000
set_option linter.unusedVariables false
set_option maxHeartbeats 4000000

noncomputable def spE1 : Pm.Spec := spL5.one 59 glWidth
attribute [go_sem] spE1
theorem spE1_ok : SpecOk Try.prog spE1 := Spec.one_ok glWidth_ok spL5_ok
theorem unAls_append : ∀ (l r : List Mk), unAls (l.flatMap Mk.als ++ r.flatMap Mk.als) = some (l ++ r) := fun l r => by rw [← List.flatMap_append]; exact unAls_eq _
theorem unAls_snocF (l : List Mk) (a : Int) : unAls (l.flatMap Mk.als ++ [.ifc 98 (.agg [.int .i64 a, .fn 73 [] []])]) = some (l ++ [⟨a, false⟩]) := unAls_append l [⟨a, false⟩]
theorem unAls_snocT (l : List Mk) (a : Int) : unAls (l.flatMap Mk.als ++ [.ifc 98 (.agg [.int .i64 a, .fn 74 [] []])]) = some (l ++ [⟨a, true⟩]) := unAls_append l [⟨a, true⟩]
attribute [go_sem] unAls_snocF unAls_snocT
theorem allO_t : ∀ xs : List TV, allO (List.map PV.toT (List.map PV.t xs)) = some xs
  | [] => rfl
  | x :: xs => by simp only [List.map_cons, allO, PV.toT, allO_t xs, Option.map_some]
theorem allO_snoc : ∀ (xs : List TV) (y : TV), allO (List.map PV.toT (List.map PV.t xs ++ [PV.t y])) = some (xs ++ [y])
  | [], y => rfl
  | x :: xs, y => by simp only [List.map_cons, List.cons_append, allO, PV.toT, allO_snoc xs y, Option.map_some]
attribute [go_sem] allO_snoc
/-- The gains, in the map. -/
def gm (a b : Option Int) : TV → Option TV
  | .bool false => a.map (TV.int .i64)
  | .bool true => b.map (TV.int .i64)
  | _ => none
theorem gm_none : (fun _ => none) = gm none none := by
  funext x; unfold gm; split <;> rfl
theorem gm_f (a b : Option Int) : gm a b (.bool false) = a.map (TV.int .i64) := rfl
theorem gm_t (a b : Option Int) : gm a b (.bool true) = b.map (TV.int .i64) := rfl
theorem gm_uf (a b : Option Int) (n : Int) : updT (gm a b) (.bool false) (.int .i64 n) = gm (some n) b := by
  funext x; unfold updT
  by_cases h : x = .bool false
  · subst h; simp [gm]
  · rw [if_neg h]; unfold gm; split <;> first | rfl | exact absurd rfl h
theorem gm_ut (a b : Option Int) (n : Int) : updT (gm a b) (.bool true) (.int .i64 n) = gm a (some n) := by
  funext x; unfold updT
  by_cases h : x = .bool true
  · subst h; simp [gm]
  · rw [if_neg h]; unfold gm; split <;> first | rfl | exact absurd rfl h
theorem len_snoc {α : Type} (l : List α) (x : α) : (l ++ [x]).length = l.length + 1 := by simp

theorem lNext_c (v : Vial) {l : List Rd} {s : TV} (hs : IsRow Rd.cs s l) (hl : l.length ≤ 5864062014806) : PCalls Try.prog 26 [v.t, s] (.tup [.bool (nextP v l).1, .int .i64 (nextP v l).2.1, .int .i64 (nextP v l).2.2]) := by
  refine pcalls_by Try.mixes spE1_ok (fn := Try.f26) Try.func26 rfl (by kernel_rfl) (by show 2 ≤ _; decide) ?_
  unfold nextP
  by_cases hk : asked v l = 0
  · obtain ⟨hv, hr⟩ := asked_zero hk
    have hv' := Vial.ok_iff.1 hv
    have hm := mksOk_mid hv hr
    have h8 := rdsOk_len hr
    have h100 : l.length ≤ 100 := by omega
    have ho := openedT_yes hk
    obtain ⟨full, rfl⟩ := hs.ne h8.1
    by_cases h88 : l.length = 8
    · have h8e : (((8 : Nat) : Int) == 8) = true := rfl
      simp (decide := true) (maxSteps := 4000000) only [go_sem, Nat.reduceAdd, Nat.reduceSub, Nat.reduceMul, Nat.reduceDiv, Nat.reduceMod, Nat.reduceLT, Nat.reduceLeDiff, Nat.reduceEqDiff, Nat.reduceBEq, Nat.reduceBNe, Nat.reduceGT, Int.reduceAdd, Int.reduceSub, Int.reduceMul, Int.reduceNeg, Int.reduceLT, Int.reduceLE, Int.reduceEq, Int.reduceNe, Int.reduceBEq, Int.reduceBNe, Int.reduceToNat, Int.reduceGT, Int.reduceGE, ↓reduceIte, decide_true, decide_false, Try.f26, Vial.t, Vial.cs, hk, hl, ho, h88, h8e]
    · have h88' : ¬ (l.length : Int) = 8 := by omega
      have h88c : ((l.length : Int) == 8) = false := by simpa using h88'
      have h88b : ((l.length : Int) == 8) = false := by simpa using h88'
      cases hi : (tilts v (l.map mid)).is with
      | false => simp (decide := true) (maxSteps := 4000000) only [go_sem, Nat.reduceAdd, Nat.reduceSub, Nat.reduceMul, Nat.reduceDiv, Nat.reduceMod, Nat.reduceLT, Nat.reduceLeDiff, Nat.reduceEqDiff, Nat.reduceBEq, Nat.reduceBNe, Nat.reduceGT, Int.reduceAdd, Int.reduceSub, Int.reduceMul, Int.reduceNeg, Int.reduceLT, Int.reduceLE, Int.reduceEq, Int.reduceNe, Int.reduceBEq, Int.reduceBNe, Int.reduceToNat, Int.reduceGT, Int.reduceGE, ↓reduceIte, decide_true, decide_false, Try.f26, Vial.t, Vial.cs, hk, hl, ho, h88, h88b, hv, h8.1, h100, hm, List.length_map, TZ.t, Span.t, Span.cs, hi]
      | true =>
        have w1 : IntKind.i64.wrap (2 * v.marks) = 2 * v.marks := wrap_in (by omega) (by omega)
        have w2 : IntKind.i64.wrap (2 * v.marks + 1) = 2 * v.marks + 1 := wrap_in (by omega) (by omega)
        simp (decide := true) (maxSteps := 4000000) only [go_sem, Nat.reduceAdd, Nat.reduceSub, Nat.reduceMul, Nat.reduceDiv, Nat.reduceMod, Nat.reduceLT, Nat.reduceLeDiff, Nat.reduceEqDiff, Nat.reduceBEq, Nat.reduceBNe, Nat.reduceGT, Int.reduceAdd, Int.reduceSub, Int.reduceMul, Int.reduceNeg, Int.reduceLT, Int.reduceLE, Int.reduceEq, Int.reduceNe, Int.reduceBEq, Int.reduceBNe, Int.reduceToNat, Int.reduceGT, Int.reduceGE, ↓reduceIte, decide_true, decide_false, Try.f26, Vial.t, Vial.cs, hk, hl, ho, h88, h88b, hv, h8.1, h100, hm, List.length_map, TZ.t, Span.t, Span.cs, hi]
        refine pwpC_loopQ (A := { k : Nat // k ≤ 2 }) (fun k => { env := [(51, .t (.int .i64 k.1)), (50, .t (.agg [.bool false, .bool true])), (12, .mapr 4), (7, .ptr 1 0), (8, .t (.sl ((l.map mid).flatMap Mk.als) l.length false))], heap := [.box (v.cs.map .t), .box (v.cs.map .t), .box ((tilts v (l.map mid)).tilt.cs.map .t), .box ((tilts v (l.map mid)).zero.cs.map .t), .mp 95 (gm (if 1 ≤ k.1 then gainOf v (l.map mid) false else none) (if 2 ≤ k.1 then gainOf v (l.map mid) true else none))] }) (fun k => 2 - k.1) ⟨0, by omega⟩ ?_ (fun k => by rfl) fun Q1 hQ1 ⟨k, hk2⟩ I1 hI1 => ?_
        · simp (decide := true) (maxSteps := 4000000) only [go_sem, Nat.reduceAdd, Nat.reduceSub, Nat.reduceMul, Nat.reduceDiv, Nat.reduceMod, Nat.reduceLT, Nat.reduceLeDiff, Nat.reduceEqDiff, Nat.reduceBEq, Nat.reduceBNe, Nat.reduceGT, Int.reduceAdd, Int.reduceSub, Int.reduceMul, Int.reduceNeg, Int.reduceLT, Int.reduceLE, Int.reduceEq, Int.reduceNe, Int.reduceBEq, Int.reduceBNe, Int.reduceToNat, Int.reduceGT, Int.reduceGE, ↓reduceIte, decide_true, decide_false, Vial.cs, Span.cs, gm_none]
        · rcases (show k = 0 ∨ k = 1 ∨ k = 2 by omega) with rfl | rfl | rfl
          · simp (decide := true) (maxSteps := 4000000) only [go_sem, Nat.reduceAdd, Nat.reduceSub, Nat.reduceMul, Nat.reduceDiv, Nat.reduceMod, Nat.reduceLT, Nat.reduceLeDiff, Nat.reduceEqDiff, Nat.reduceBEq, Nat.reduceBNe, Nat.reduceGT, Int.reduceAdd, Int.reduceSub, Int.reduceMul, Int.reduceNeg, Int.reduceLT, Int.reduceLE, Int.reduceEq, Int.reduceNe, Int.reduceBEq, Int.reduceBNe, Int.reduceToNat, Int.reduceGT, Int.reduceGE, ↓reduceIte, decide_true, decide_false, Vial.cs, Span.cs, w1, w2]
            refine pwpC_loopQ (A := { i : Nat // i ≤ (2 * v.marks + 1).toNat }) (fun i => { env := [(59, .t (.int .i64 i.1)), (58, .t (.int .i64 (2 * v.marks + 1))), (14, .t (.bool false)), (51, .t (.int .i64 0)), (50, .t (.agg [.bool false, .bool true])), (12, .mapr 4), (7, .ptr 1 0), (8, .t (.sl ((l.map mid).flatMap Mk.als) l.length false))], heap := [.box (v.cs.map .t), .box (v.cs.map .t), .box ((tilts v (l.map mid)).tilt.cs.map .t), .box ((tilts v (l.map mid)).zero.cs.map .t), .mp 95 (gm (gainTo v (l.map mid) false i.1) none)] }) (fun i => (2 * v.marks + 1).toNat - i.1) ⟨0, by omega⟩ ?_ (fun i => by rfl) fun Q2 hQ2 ⟨i, hi1⟩ I2 hI2 => ?_
            · simp (decide := true) (maxSteps := 4000000) only [go_sem, Nat.reduceAdd, Nat.reduceSub, Nat.reduceMul, Nat.reduceDiv, Nat.reduceMod, Nat.reduceLT, Nat.reduceLeDiff, Nat.reduceEqDiff, Nat.reduceBEq, Nat.reduceBNe, Nat.reduceGT, Int.reduceAdd, Int.reduceSub, Int.reduceMul, Int.reduceNeg, Int.reduceLT, Int.reduceLE, Int.reduceEq, Int.reduceNe, Int.reduceBEq, Int.reduceBNe, Int.reduceToNat, Int.reduceGT, Int.reduceGE, ↓reduceIte, decide_true, decide_false, Vial.cs, Span.cs, gainTo, range]
            · by_cases hlt : (i : Int) < 2 * v.marks + 1
              · have hc1 : IntKind.i64.wrap (i + 1) = ((i + 1 : Nat) : Int) := by rw [wrap_in (by omega) (by omega)]; omega
                have hd1 : (2 * v.marks + 1).toNat - (i + 1) < (2 * v.marks + 1).toNat - i := by omega
                have hm2 : mksOk (l.map mid ++ [⟨i, false⟩]) = true := by
                  unfold mksOk at hm ⊢
                  rw [List.all_append, hm]
                  simp [inB]; omega
                have hx1 : 1 ≤ (l.map mid ++ [(⟨i, false⟩ : Mk)]).length := by simp
                have hx2 : (l.map mid ++ [(⟨i, false⟩ : Mk)]).length ≤ 100 := by simp; omega
                have hx3 : (l.map mid ++ [(⟨i, false⟩ : Mk)]).length = l.length + 1 := by simp
                have hfl : (List.flatMap Mk.als (l.map mid)).length = l.length := by rw [flat_len Mk.als (n := 1) (fun _ => rfl)]; simp
                have htk : List.take l.length (List.flatMap Mk.als (l.map mid)) = List.flatMap Mk.als (l.map mid) := List.take_of_length_le (by omega)
                have h99 : l.length ≤ 99 := by omega
                have hroom : (l.length + 1) * 16 ≤ 140737488355328 := by omega
                have hn0 : ¬ l.length = 0 := by omega
                have hb := tilts_bound hv hm2
                have hs := gainTo_succ v (l.map mid) false i
                unfold gainStep at hs
                cases hj : (tilts v (l.map mid ++ [⟨i, false⟩])).is with
                | false =>
                  rw [hj] at hs
                  simp (decide := true) (maxSteps := 4000000) only [go_sem, Nat.reduceAdd, Nat.reduceSub, Nat.reduceMul, Nat.reduceDiv, Nat.reduceMod, Nat.reduceLT, Nat.reduceLeDiff, Nat.reduceEqDiff, Nat.reduceBEq, Nat.reduceBNe, Nat.reduceGT, Int.reduceAdd, Int.reduceSub, Int.reduceMul, Int.reduceNeg, Int.reduceLT, Int.reduceLE, Int.reduceEq, Int.reduceNe, Int.reduceBEq, Int.reduceBNe, Int.reduceToNat, Int.reduceGT, Int.reduceGE, ↓reduceIte, decide_true, decide_false, eq_self, Nat.mul_one, Nat.zero_mul, Nat.one_mul, Int.le_refl, Nat.le_refl, Int.cast_ofNat_Int, hlt, Vial.cs, w1, w2, hv, hm2, hx1, hx2, hx3, hfl, htk, hroom, h99, hn0, hj, TZ.t, Span.t, Span.cs]
                  refine hI2 _ ⟨i + 1, by omega⟩ (by simp only; omega) ?_
                  simp (decide := true) (maxSteps := 4000000) only [go_sem, Nat.reduceAdd, Nat.reduceSub, Nat.reduceMul, Nat.reduceDiv, Nat.reduceMod, Nat.reduceLT, Nat.reduceLeDiff, Nat.reduceEqDiff, Nat.reduceBEq, Nat.reduceBNe, Nat.reduceGT, Int.reduceAdd, Int.reduceSub, Int.reduceMul, Int.reduceNeg, Int.reduceLT, Int.reduceLE, Int.reduceEq, Int.reduceNe, Int.reduceBEq, Int.reduceBNe, Int.reduceToNat, Int.reduceGT, Int.reduceGE, ↓reduceIte, decide_true, decide_false, hc1, hd1, Vial.cs, Span.cs, hs]
                | true =>
                  rw [hj] at hs
                  unfold wideT at hs
                  have w4 : IntKind.i64.wrap ((tilts v (l.map mid ++ [⟨i, false⟩])).tilt.hi - (tilts v (l.map mid ++ [⟨i, false⟩])).tilt.lo) = (tilts v (l.map mid ++ [⟨i, false⟩])).tilt.hi - (tilts v (l.map mid ++ [⟨i, false⟩])).tilt.lo := wrap_in (by omega) (by omega)
                  cases hg : gainTo v (l.map mid) false i with
                  | none =>
                    rw [hg] at hs
                    simp (decide := true) (maxSteps := 4000000) only [go_sem, Nat.reduceAdd, Nat.reduceSub, Nat.reduceMul, Nat.reduceDiv, Nat.reduceMod, Nat.reduceLT, Nat.reduceLeDiff, Nat.reduceEqDiff, Nat.reduceBEq, Nat.reduceBNe, Nat.reduceGT, Int.reduceAdd, Int.reduceSub, Int.reduceMul, Int.reduceNeg, Int.reduceLT, Int.reduceLE, Int.reduceEq, Int.reduceNe, Int.reduceBEq, Int.reduceBNe, Int.reduceToNat, Int.reduceGT, Int.reduceGE, ↓reduceIte, decide_true, decide_false, eq_self, Nat.mul_one, Nat.zero_mul, Nat.one_mul, Int.le_refl, Nat.le_refl, Int.cast_ofNat_Int, hlt, Vial.cs, w1, w2, hv, hm2, hx1, hx2, hx3, hfl, htk, hroom, h99, hn0, hj, TZ.t, Span.t, Span.cs, hg, gm_f, gm_t, gm_uf, gm_ut, w4]
                    refine hI2 _ ⟨i + 1, by omega⟩ (by simp only; omega) ?_
                    simp (decide := true) (maxSteps := 4000000) only [go_sem, Nat.reduceAdd, Nat.reduceSub, Nat.reduceMul, Nat.reduceDiv, Nat.reduceMod, Nat.reduceLT, Nat.reduceLeDiff, Nat.reduceEqDiff, Nat.reduceBEq, Nat.reduceBNe, Nat.reduceGT, Int.reduceAdd, Int.reduceSub, Int.reduceMul, Int.reduceNeg, Int.reduceLT, Int.reduceLE, Int.reduceEq, Int.reduceNe, Int.reduceBEq, Int.reduceBNe, Int.reduceToNat, Int.reduceGT, Int.reduceGE, ↓reduceIte, decide_true, decide_false, hc1, hd1, Vial.cs, Span.cs, hs]
                  | some n =>
                    rw [hg] at hs
                    simp only [if_true] at hs
                    by_cases hgt : (tilts v (l.map mid ++ [⟨i, false⟩])).tilt.hi - (tilts v (l.map mid ++ [⟨i, false⟩])).tilt.lo > n
                    · have hmx : max n ((tilts v (l.map mid ++ [⟨i, false⟩])).tilt.hi - (tilts v (l.map mid ++ [⟨i, false⟩])).tilt.lo) = (tilts v (l.map mid ++ [⟨i, false⟩])).tilt.hi - (tilts v (l.map mid ++ [⟨i, false⟩])).tilt.lo := by omega
                      rw [hmx] at hs
                      simp (decide := true) (maxSteps := 4000000) only [go_sem, Nat.reduceAdd, Nat.reduceSub, Nat.reduceMul, Nat.reduceDiv, Nat.reduceMod, Nat.reduceLT, Nat.reduceLeDiff, Nat.reduceEqDiff, Nat.reduceBEq, Nat.reduceBNe, Nat.reduceGT, Int.reduceAdd, Int.reduceSub, Int.reduceMul, Int.reduceNeg, Int.reduceLT, Int.reduceLE, Int.reduceEq, Int.reduceNe, Int.reduceBEq, Int.reduceBNe, Int.reduceToNat, Int.reduceGT, Int.reduceGE, ↓reduceIte, decide_true, decide_false, eq_self, Nat.mul_one, Nat.zero_mul, Nat.one_mul, Int.le_refl, Nat.le_refl, Int.cast_ofNat_Int, hlt, Vial.cs, w1, w2, hv, hm2, hx1, hx2, hx3, hfl, htk, hroom, h99, hn0, hj, TZ.t, Span.t, Span.cs, hg, gm_f, gm_t, gm_uf, gm_ut, w4, hgt]
                      refine hI2 _ ⟨i + 1, by omega⟩ (by simp only; omega) ?_
                      simp (decide := true) (maxSteps := 4000000) only [go_sem, Nat.reduceAdd, Nat.reduceSub, Nat.reduceMul, Nat.reduceDiv, Nat.reduceMod, Nat.reduceLT, Nat.reduceLeDiff, Nat.reduceEqDiff, Nat.reduceBEq, Nat.reduceBNe, Nat.reduceGT, Int.reduceAdd, Int.reduceSub, Int.reduceMul, Int.reduceNeg, Int.reduceLT, Int.reduceLE, Int.reduceEq, Int.reduceNe, Int.reduceBEq, Int.reduceBNe, Int.reduceToNat, Int.reduceGT, Int.reduceGE, ↓reduceIte, decide_true, decide_false, hc1, hd1, Vial.cs, Span.cs, hs]
                    · have hmx : max n ((tilts v (l.map mid ++ [⟨i, false⟩])).tilt.hi - (tilts v (l.map mid ++ [⟨i, false⟩])).tilt.lo) = n := by omega
                      rw [hmx] at hs
                      simp (decide := true) (maxSteps := 4000000) only [go_sem, Nat.reduceAdd, Nat.reduceSub, Nat.reduceMul, Nat.reduceDiv, Nat.reduceMod, Nat.reduceLT, Nat.reduceLeDiff, Nat.reduceEqDiff, Nat.reduceBEq, Nat.reduceBNe, Nat.reduceGT, Int.reduceAdd, Int.reduceSub, Int.reduceMul, Int.reduceNeg, Int.reduceLT, Int.reduceLE, Int.reduceEq, Int.reduceNe, Int.reduceBEq, Int.reduceBNe, Int.reduceToNat, Int.reduceGT, Int.reduceGE, ↓reduceIte, decide_true, decide_false, eq_self, Nat.mul_one, Nat.zero_mul, Nat.one_mul, Int.le_refl, Nat.le_refl, Int.cast_ofNat_Int, hlt, Vial.cs, w1, w2, hv, hm2, hx1, hx2, hx3, hfl, htk, hroom, h99, hn0, hj, TZ.t, Span.t, Span.cs, hg, gm_f, gm_t, gm_uf, gm_ut, w4, hgt]
                      refine hI2 _ ⟨i + 1, by omega⟩ (by simp only; omega) ?_
                      simp (decide := true) (maxSteps := 4000000) only [go_sem, Nat.reduceAdd, Nat.reduceSub, Nat.reduceMul, Nat.reduceDiv, Nat.reduceMod, Nat.reduceLT, Nat.reduceLeDiff, Nat.reduceEqDiff, Nat.reduceBEq, Nat.reduceBNe, Nat.reduceGT, Int.reduceAdd, Int.reduceSub, Int.reduceMul, Int.reduceNeg, Int.reduceLT, Int.reduceLE, Int.reduceEq, Int.reduceNe, Int.reduceBEq, Int.reduceBNe, Int.reduceToNat, Int.reduceGT, Int.reduceGE, ↓reduceIte, decide_true, decide_false, hc1, hd1, Vial.cs, Span.cs, hs, hg]
              · have hie : i = (2 * v.marks + 1).toNat := by omega
                subst hie
                have hge : gainTo v (l.map mid) false (2 * v.marks + 1).toNat = gainOf v (l.map mid) false := rfl
                simp (decide := true) (maxSteps := 4000000) only [go_sem, Nat.reduceAdd, Nat.reduceSub, Nat.reduceMul, Nat.reduceDiv, Nat.reduceMod, Nat.reduceLT, Nat.reduceLeDiff, Nat.reduceEqDiff, Nat.reduceBEq, Nat.reduceBNe, Nat.reduceGT, Int.reduceAdd, Int.reduceSub, Int.reduceMul, Int.reduceNeg, Int.reduceLT, Int.reduceLE, Int.reduceEq, Int.reduceNe, Int.reduceBEq, Int.reduceBNe, Int.reduceToNat, Int.reduceGT, Int.reduceGE, ↓reduceIte, decide_true, decide_false, hlt]
                refine hQ2 _ _ ?_
                simp (decide := true) (maxSteps := 4000000) only [go_sem, Nat.reduceAdd, Nat.reduceSub, Nat.reduceMul, Nat.reduceDiv, Nat.reduceMod, Nat.reduceLT, Nat.reduceLeDiff, Nat.reduceEqDiff, Nat.reduceBEq, Nat.reduceBNe, Nat.reduceGT, Int.reduceAdd, Int.reduceSub, Int.reduceMul, Int.reduceNeg, Int.reduceLT, Int.reduceLE, Int.reduceEq, Int.reduceNe, Int.reduceBEq, Int.reduceBNe, Int.reduceToNat, Int.reduceGT, Int.reduceGE, ↓reduceIte, decide_true, decide_false, Vial.cs, Span.cs, hge]
                refine hI1 _ ⟨0 + 1, by omega⟩ (by simp) ?_
                simp (decide := true) (maxSteps := 4000000) only [go_sem, Nat.reduceAdd, Nat.reduceSub, Nat.reduceMul, Nat.reduceDiv, Nat.reduceMod, Nat.reduceLT, Nat.reduceLeDiff, Nat.reduceEqDiff, Nat.reduceBEq, Nat.reduceBNe, Nat.reduceGT, Int.reduceAdd, Int.reduceSub, Int.reduceMul, Int.reduceNeg, Int.reduceLT, Int.reduceLE, Int.reduceEq, Int.reduceNe, Int.reduceBEq, Int.reduceBNe, Int.reduceToNat, Int.reduceGT, Int.reduceGE, ↓reduceIte, decide_true, decide_false, Vial.cs, Span.cs]
          · simp (decide := true) (maxSteps := 4000000) only [go_sem, Nat.reduceAdd, Nat.reduceSub, Nat.reduceMul, Nat.reduceDiv, Nat.reduceMod, Nat.reduceLT, Nat.reduceLeDiff, Nat.reduceEqDiff, Nat.reduceBEq, Nat.reduceBNe, Nat.reduceGT, Int.reduceAdd, Int.reduceSub, Int.reduceMul, Int.reduceNeg, Int.reduceLT, Int.reduceLE, Int.reduceEq, Int.reduceNe, Int.reduceBEq, Int.reduceBNe, Int.reduceToNat, Int.reduceGT, Int.reduceGE, ↓reduceIte, decide_true, decide_false, Vial.cs, Span.cs, w1, w2]
            refine pwpC_loopQ (A := { i : Nat // i ≤ (2 * v.marks + 1).toNat }) (fun i => { env := [(59, .t (.int .i64 i.1)), (58, .t (.int .i64 (2 * v.marks + 1))), (14, .t (.bool true)), (51, .t (.int .i64 1)), (50, .t (.agg [.bool false, .bool true])), (12, .mapr 4), (7, .ptr 1 0), (8, .t (.sl ((l.map mid).flatMap Mk.als) l.length false))], heap := [.box (v.cs.map .t), .box (v.cs.map .t), .box ((tilts v (l.map mid)).tilt.cs.map .t), .box ((tilts v (l.map mid)).zero.cs.map .t), .mp 95 (gm (gainOf v (l.map mid) false) (gainTo v (l.map mid) true i.1))] }) (fun i => (2 * v.marks + 1).toNat - i.1) ⟨0, by omega⟩ ?_ (fun i => by rfl) fun Q2 hQ2 ⟨i, hi1⟩ I2 hI2 => ?_
            · simp (decide := true) (maxSteps := 4000000) only [go_sem, Nat.reduceAdd, Nat.reduceSub, Nat.reduceMul, Nat.reduceDiv, Nat.reduceMod, Nat.reduceLT, Nat.reduceLeDiff, Nat.reduceEqDiff, Nat.reduceBEq, Nat.reduceBNe, Nat.reduceGT, Int.reduceAdd, Int.reduceSub, Int.reduceMul, Int.reduceNeg, Int.reduceLT, Int.reduceLE, Int.reduceEq, Int.reduceNe, Int.reduceBEq, Int.reduceBNe, Int.reduceToNat, Int.reduceGT, Int.reduceGE, ↓reduceIte, decide_true, decide_false, Vial.cs, Span.cs, gainTo, range]
            · by_cases hlt : (i : Int) < 2 * v.marks + 1
              · have hc1 : IntKind.i64.wrap (i + 1) = ((i + 1 : Nat) : Int) := by rw [wrap_in (by omega) (by omega)]; omega
                have hd1 : (2 * v.marks + 1).toNat - (i + 1) < (2 * v.marks + 1).toNat - i := by omega
                have hm2 : mksOk (l.map mid ++ [⟨i, true⟩]) = true := by
                  unfold mksOk at hm ⊢
                  rw [List.all_append, hm]
                  simp [inB]; omega
                have hx1 : 1 ≤ (l.map mid ++ [(⟨i, true⟩ : Mk)]).length := by simp
                have hx2 : (l.map mid ++ [(⟨i, true⟩ : Mk)]).length ≤ 100 := by simp; omega
                have hx3 : (l.map mid ++ [(⟨i, true⟩ : Mk)]).length = l.length + 1 := by simp
                have hfl : (List.flatMap Mk.als (l.map mid)).length = l.length := by rw [flat_len Mk.als (n := 1) (fun _ => rfl)]; simp
                have htk : List.take l.length (List.flatMap Mk.als (l.map mid)) = List.flatMap Mk.als (l.map mid) := List.take_of_length_le (by omega)
                have h99 : l.length ≤ 99 := by omega
                have hroom : (l.length + 1) * 16 ≤ 140737488355328 := by omega
                have hn0 : ¬ l.length = 0 := by omega
                have hb := tilts_bound hv hm2
                have hs := gainTo_succ v (l.map mid) true i
                unfold gainStep at hs
                cases hj : (tilts v (l.map mid ++ [⟨i, true⟩])).is with
                | false =>
                  rw [hj] at hs
                  simp (decide := true) (maxSteps := 4000000) only [go_sem, Nat.reduceAdd, Nat.reduceSub, Nat.reduceMul, Nat.reduceDiv, Nat.reduceMod, Nat.reduceLT, Nat.reduceLeDiff, Nat.reduceEqDiff, Nat.reduceBEq, Nat.reduceBNe, Nat.reduceGT, Int.reduceAdd, Int.reduceSub, Int.reduceMul, Int.reduceNeg, Int.reduceLT, Int.reduceLE, Int.reduceEq, Int.reduceNe, Int.reduceBEq, Int.reduceBNe, Int.reduceToNat, Int.reduceGT, Int.reduceGE, ↓reduceIte, decide_true, decide_false, eq_self, Nat.mul_one, Nat.zero_mul, Nat.one_mul, Int.le_refl, Nat.le_refl, Int.cast_ofNat_Int, hlt, Vial.cs, w1, w2, hv, hm2, hx1, hx2, hx3, hfl, htk, hroom, h99, hn0, hj, TZ.t, Span.t, Span.cs]
                  refine hI2 _ ⟨i + 1, by omega⟩ (by simp only; omega) ?_
                  simp (decide := true) (maxSteps := 4000000) only [go_sem, Nat.reduceAdd, Nat.reduceSub, Nat.reduceMul, Nat.reduceDiv, Nat.reduceMod, Nat.reduceLT, Nat.reduceLeDiff, Nat.reduceEqDiff, Nat.reduceBEq, Nat.reduceBNe, Nat.reduceGT, Int.reduceAdd, Int.reduceSub, Int.reduceMul, Int.reduceNeg, Int.reduceLT, Int.reduceLE, Int.reduceEq, Int.reduceNe, Int.reduceBEq, Int.reduceBNe, Int.reduceToNat, Int.reduceGT, Int.reduceGE, ↓reduceIte, decide_true, decide_false, hc1, hd1, Vial.cs, Span.cs, hs]
                | true =>
                  rw [hj] at hs
                  unfold wideT at hs
                  have w4 : IntKind.i64.wrap ((tilts v (l.map mid ++ [⟨i, true⟩])).tilt.hi - (tilts v (l.map mid ++ [⟨i, true⟩])).tilt.lo) = (tilts v (l.map mid ++ [⟨i, true⟩])).tilt.hi - (tilts v (l.map mid ++ [⟨i, true⟩])).tilt.lo := wrap_in (by omega) (by omega)
                  cases hg : gainTo v (l.map mid) true i with
                  | none =>
                    rw [hg] at hs
                    simp (decide := true) (maxSteps := 4000000) only [go_sem, Nat.reduceAdd, Nat.reduceSub, Nat.reduceMul, Nat.reduceDiv, Nat.reduceMod, Nat.reduceLT, Nat.reduceLeDiff, Nat.reduceEqDiff, Nat.reduceBEq, Nat.reduceBNe, Nat.reduceGT, Int.reduceAdd, Int.reduceSub, Int.reduceMul, Int.reduceNeg, Int.reduceLT, Int.reduceLE, Int.reduceEq, Int.reduceNe, Int.reduceBEq, Int.reduceBNe, Int.reduceToNat, Int.reduceGT, Int.reduceGE, ↓reduceIte, decide_true, decide_false, eq_self, Nat.mul_one, Nat.zero_mul, Nat.one_mul, Int.le_refl, Nat.le_refl, Int.cast_ofNat_Int, hlt, Vial.cs, w1, w2, hv, hm2, hx1, hx2, hx3, hfl, htk, hroom, h99, hn0, hj, TZ.t, Span.t, Span.cs, hg, gm_f, gm_t, gm_uf, gm_ut, w4]
                    refine hI2 _ ⟨i + 1, by omega⟩ (by simp only; omega) ?_
                    simp (decide := true) (maxSteps := 4000000) only [go_sem, Nat.reduceAdd, Nat.reduceSub, Nat.reduceMul, Nat.reduceDiv, Nat.reduceMod, Nat.reduceLT, Nat.reduceLeDiff, Nat.reduceEqDiff, Nat.reduceBEq, Nat.reduceBNe, Nat.reduceGT, Int.reduceAdd, Int.reduceSub, Int.reduceMul, Int.reduceNeg, Int.reduceLT, Int.reduceLE, Int.reduceEq, Int.reduceNe, Int.reduceBEq, Int.reduceBNe, Int.reduceToNat, Int.reduceGT, Int.reduceGE, ↓reduceIte, decide_true, decide_false, hc1, hd1, Vial.cs, Span.cs, hs]
                  | some n =>
                    rw [hg] at hs
                    simp only [if_true] at hs
                    by_cases hgt : (tilts v (l.map mid ++ [⟨i, true⟩])).tilt.hi - (tilts v (l.map mid ++ [⟨i, true⟩])).tilt.lo > n
                    · have hmx : max n ((tilts v (l.map mid ++ [⟨i, true⟩])).tilt.hi - (tilts v (l.map mid ++ [⟨i, true⟩])).tilt.lo) = (tilts v (l.map mid ++ [⟨i, true⟩])).tilt.hi - (tilts v (l.map mid ++ [⟨i, true⟩])).tilt.lo := by omega
                      rw [hmx] at hs
                      simp (decide := true) (maxSteps := 4000000) only [go_sem, Nat.reduceAdd, Nat.reduceSub, Nat.reduceMul, Nat.reduceDiv, Nat.reduceMod, Nat.reduceLT, Nat.reduceLeDiff, Nat.reduceEqDiff, Nat.reduceBEq, Nat.reduceBNe, Nat.reduceGT, Int.reduceAdd, Int.reduceSub, Int.reduceMul, Int.reduceNeg, Int.reduceLT, Int.reduceLE, Int.reduceEq, Int.reduceNe, Int.reduceBEq, Int.reduceBNe, Int.reduceToNat, Int.reduceGT, Int.reduceGE, ↓reduceIte, decide_true, decide_false, eq_self, Nat.mul_one, Nat.zero_mul, Nat.one_mul, Int.le_refl, Nat.le_refl, Int.cast_ofNat_Int, hlt, Vial.cs, w1, w2, hv, hm2, hx1, hx2, hx3, hfl, htk, hroom, h99, hn0, hj, TZ.t, Span.t, Span.cs, hg, gm_f, gm_t, gm_uf, gm_ut, w4, hgt]
                      refine hI2 _ ⟨i + 1, by omega⟩ (by simp only; omega) ?_
                      simp (decide := true) (maxSteps := 4000000) only [go_sem, Nat.reduceAdd, Nat.reduceSub, Nat.reduceMul, Nat.reduceDiv, Nat.reduceMod, Nat.reduceLT, Nat.reduceLeDiff, Nat.reduceEqDiff, Nat.reduceBEq, Nat.reduceBNe, Nat.reduceGT, Int.reduceAdd, Int.reduceSub, Int.reduceMul, Int.reduceNeg, Int.reduceLT, Int.reduceLE, Int.reduceEq, Int.reduceNe, Int.reduceBEq, Int.reduceBNe, Int.reduceToNat, Int.reduceGT, Int.reduceGE, ↓reduceIte, decide_true, decide_false, hc1, hd1, Vial.cs, Span.cs, hs]
                    · have hmx : max n ((tilts v (l.map mid ++ [⟨i, true⟩])).tilt.hi - (tilts v (l.map mid ++ [⟨i, true⟩])).tilt.lo) = n := by omega
                      rw [hmx] at hs
                      simp (decide := true) (maxSteps := 4000000) only [go_sem, Nat.reduceAdd, Nat.reduceSub, Nat.reduceMul, Nat.reduceDiv, Nat.reduceMod, Nat.reduceLT, Nat.reduceLeDiff, Nat.reduceEqDiff, Nat.reduceBEq, Nat.reduceBNe, Nat.reduceGT, Int.reduceAdd, Int.reduceSub, Int.reduceMul, Int.reduceNeg, Int.reduceLT, Int.reduceLE, Int.reduceEq, Int.reduceNe, Int.reduceBEq, Int.reduceBNe, Int.reduceToNat, Int.reduceGT, Int.reduceGE, ↓reduceIte, decide_true, decide_false, eq_self, Nat.mul_one, Nat.zero_mul, Nat.one_mul, Int.le_refl, Nat.le_refl, Int.cast_ofNat_Int, hlt, Vial.cs, w1, w2, hv, hm2, hx1, hx2, hx3, hfl, htk, hroom, h99, hn0, hj, TZ.t, Span.t, Span.cs, hg, gm_f, gm_t, gm_uf, gm_ut, w4, hgt]
                      refine hI2 _ ⟨i + 1, by omega⟩ (by simp only; omega) ?_
                      simp (decide := true) (maxSteps := 4000000) only [go_sem, Nat.reduceAdd, Nat.reduceSub, Nat.reduceMul, Nat.reduceDiv, Nat.reduceMod, Nat.reduceLT, Nat.reduceLeDiff, Nat.reduceEqDiff, Nat.reduceBEq, Nat.reduceBNe, Nat.reduceGT, Int.reduceAdd, Int.reduceSub, Int.reduceMul, Int.reduceNeg, Int.reduceLT, Int.reduceLE, Int.reduceEq, Int.reduceNe, Int.reduceBEq, Int.reduceBNe, Int.reduceToNat, Int.reduceGT, Int.reduceGE, ↓reduceIte, decide_true, decide_false, hc1, hd1, Vial.cs, Span.cs, hs, hg]
              · have hie : i = (2 * v.marks + 1).toNat := by omega
                subst hie
                have hge : gainTo v (l.map mid) true (2 * v.marks + 1).toNat = gainOf v (l.map mid) true := rfl
                simp (decide := true) (maxSteps := 4000000) only [go_sem, Nat.reduceAdd, Nat.reduceSub, Nat.reduceMul, Nat.reduceDiv, Nat.reduceMod, Nat.reduceLT, Nat.reduceLeDiff, Nat.reduceEqDiff, Nat.reduceBEq, Nat.reduceBNe, Nat.reduceGT, Int.reduceAdd, Int.reduceSub, Int.reduceMul, Int.reduceNeg, Int.reduceLT, Int.reduceLE, Int.reduceEq, Int.reduceNe, Int.reduceBEq, Int.reduceBNe, Int.reduceToNat, Int.reduceGT, Int.reduceGE, ↓reduceIte, decide_true, decide_false, hlt]
                refine hQ2 _ _ ?_
                simp (decide := true) (maxSteps := 4000000) only [go_sem, Nat.reduceAdd, Nat.reduceSub, Nat.reduceMul, Nat.reduceDiv, Nat.reduceMod, Nat.reduceLT, Nat.reduceLeDiff, Nat.reduceEqDiff, Nat.reduceBEq, Nat.reduceBNe, Nat.reduceGT, Int.reduceAdd, Int.reduceSub, Int.reduceMul, Int.reduceNeg, Int.reduceLT, Int.reduceLE, Int.reduceEq, Int.reduceNe, Int.reduceBEq, Int.reduceBNe, Int.reduceToNat, Int.reduceGT, Int.reduceGE, ↓reduceIte, decide_true, decide_false, Vial.cs, Span.cs, hge]
                refine hI1 _ ⟨1 + 1, by omega⟩ (by simp) ?_
                simp (decide := true) (maxSteps := 4000000) only [go_sem, Nat.reduceAdd, Nat.reduceSub, Nat.reduceMul, Nat.reduceDiv, Nat.reduceMod, Nat.reduceLT, Nat.reduceLeDiff, Nat.reduceEqDiff, Nat.reduceBEq, Nat.reduceBNe, Nat.reduceGT, Int.reduceAdd, Int.reduceSub, Int.reduceMul, Int.reduceNeg, Int.reduceLT, Int.reduceLE, Int.reduceEq, Int.reduceNe, Int.reduceBEq, Int.reduceBNe, Int.reduceToNat, Int.reduceGT, Int.reduceGE, ↓reduceIte, decide_true, decide_false, Vial.cs, Span.cs]
          · simp (decide := true) (maxSteps := 4000000) only [go_sem, Nat.reduceAdd, Nat.reduceSub, Nat.reduceMul, Nat.reduceDiv, Nat.reduceMod, Nat.reduceLT, Nat.reduceLeDiff, Nat.reduceEqDiff, Nat.reduceBEq, Nat.reduceBNe, Nat.reduceGT, Int.reduceAdd, Int.reduceSub, Int.reduceMul, Int.reduceNeg, Int.reduceLT, Int.reduceLE, Int.reduceEq, Int.reduceNe, Int.reduceBEq, Int.reduceBNe, Int.reduceToNat, Int.reduceGT, Int.reduceGE, ↓reduceIte, decide_true, decide_false]
            refine hQ1 _ _ ?_
            cases hd : gainOf v (l.map mid) false <;> cases ht : gainOf v (l.map mid) true
            · simp (decide := true) (maxSteps := 4000000) only [go_sem, Nat.reduceAdd, Nat.reduceSub, Nat.reduceMul, Nat.reduceDiv, Nat.reduceMod, Nat.reduceLT, Nat.reduceLeDiff, Nat.reduceEqDiff, Nat.reduceBEq, Nat.reduceBNe, Nat.reduceGT, Int.reduceAdd, Int.reduceSub, Int.reduceMul, Int.reduceNeg, Int.reduceLT, Int.reduceLE, Int.reduceEq, Int.reduceNe, Int.reduceBEq, Int.reduceBNe, Int.reduceToNat, Int.reduceGT, Int.reduceGE, ↓reduceIte, decide_true, decide_false, Vial.cs, Span.cs, hd, ht, gm_f, gm_t]
            · simp (decide := true) (maxSteps := 4000000) only [go_sem, Nat.reduceAdd, Nat.reduceSub, Nat.reduceMul, Nat.reduceDiv, Nat.reduceMod, Nat.reduceLT, Nat.reduceLeDiff, Nat.reduceEqDiff, Nat.reduceBEq, Nat.reduceBNe, Nat.reduceGT, Int.reduceAdd, Int.reduceSub, Int.reduceMul, Int.reduceNeg, Int.reduceLT, Int.reduceLE, Int.reduceEq, Int.reduceNe, Int.reduceBEq, Int.reduceBNe, Int.reduceToNat, Int.reduceGT, Int.reduceGE, ↓reduceIte, decide_true, decide_false, Vial.cs, Span.cs, hd, ht, gm_f, gm_t]
            · simp (decide := true) (maxSteps := 4000000) only [go_sem, Nat.reduceAdd, Nat.reduceSub, Nat.reduceMul, Nat.reduceDiv, Nat.reduceMod, Nat.reduceLT, Nat.reduceLeDiff, Nat.reduceEqDiff, Nat.reduceBEq, Nat.reduceBNe, Nat.reduceGT, Int.reduceAdd, Int.reduceSub, Int.reduceMul, Int.reduceNeg, Int.reduceLT, Int.reduceLE, Int.reduceEq, Int.reduceNe, Int.reduceBEq, Int.reduceBNe, Int.reduceToNat, Int.reduceGT, Int.reduceGE, ↓reduceIte, decide_true, decide_false, Vial.cs, Span.cs, hd, ht, gm_f, gm_t]
            · rename_i d t
              by_cases hlt : t < d <;> simp (decide := true) (maxSteps := 4000000) only [go_sem, Nat.reduceAdd, Nat.reduceSub, Nat.reduceMul, Nat.reduceDiv, Nat.reduceMod, Nat.reduceLT, Nat.reduceLeDiff, Nat.reduceEqDiff, Nat.reduceBEq, Nat.reduceBNe, Nat.reduceGT, Int.reduceAdd, Int.reduceSub, Int.reduceMul, Int.reduceNeg, Int.reduceLT, Int.reduceLE, Int.reduceEq, Int.reduceNe, Int.reduceBEq, Int.reduceBNe, Int.reduceToNat, Int.reduceGT, Int.reduceGE, ↓reduceIte, decide_true, decide_false, Vial.cs, Span.cs, hd, ht, gm_f, gm_t, hlt]
  · obtain ⟨u, ho⟩ := openedT_no hk
    have hk' : (asked v l != 0) = true := by simpa using hk
    rcases hs with ⟨rfl, rfl⟩ | ⟨full, rfl⟩ <;> simp (decide := true) (maxSteps := 4000000) only [go_sem, Nat.reduceAdd, Nat.reduceSub, Nat.reduceMul, Nat.reduceDiv, Nat.reduceMod, Nat.reduceLT, Nat.reduceLeDiff, Nat.reduceEqDiff, Nat.reduceBEq, Nat.reduceBNe, Nat.reduceGT, Int.reduceAdd, Int.reduceSub, Int.reduceMul, Int.reduceNeg, Int.reduceLT, Int.reduceLE, Int.reduceEq, Int.reduceNe, Int.reduceBEq, Int.reduceBNe, Int.reduceToNat, Int.reduceGT, Int.reduceGE, ↓reduceIte, decide_true, decide_false, Try.f26, Vial.t, Vial.cs, unRds, hl, ho, hk, hk']
end Go.Proofs.Ytgofljmnlfnlnaa
