/- Level: the walks of the program, 4: the zeros. -/
import Derived.Test.YtgofljmnlfnlnaaLx
import Derived.Test.YtgofljmnlfnlnaaLy
namespace Go.Proofs.Ytgofljmnlfnlnaa
open Go.RowKit Go.Pm Go.Oc
set_option maxRecDepth 100000
set_option linter.unusedVariables false
set_option maxHeartbeats 1000000

def zs (v : Vial) (l : List Mk) : List (List TV) := (zerosOf v l (allZ v)).map fun y => [.int .i64 y.1, y.2.t]
theorem mth_bounds : methodO Try.prog 98 "octant/level.bounds" = some 93 := by kernel_rfl
attribute [go_sem] mth_bounds
theorem zs_at {v : Vial} {l : List Mk} {k : Nat} (h : (withinS v.wr l (v.z0 + k)).lo ≤ (withinS v.wr l (v.z0 + k)).hi) (hk : k < (v.z1 - v.z0 + 1).toNat) :
    (zs v l)[cz v l k]? = some [.int .i64 (v.z0 + k), .agg [.int .i64 (withinS v.wr l (v.z0 + k)).lo, .int .i64 (withinS v.wr l (v.z0 + k)).hi]] := by
  unfold zs; rw [List.getElem?_map, zerosOf_at h hk]; rfl
theorem lZeros1_c (v : Vial) (l : List Mk) (full : Bool) (h1 : 1 ≤ l.length) (hv : v.ok = true) (hm : mksOk l = true) (hl : l.length ≤ 100) :
    Iter Try.prog 77 [] [.cptr v.cs, .cptr [.sl (l.flatMap Mk.als) l.length full]] (zs v l) := by
  refine iter_by Try.mixes spL3_ok (fn := Try.f77) Try.func77 rfl (by kernel_rfl) rfl (by show 3 ≤ _; decide) ?_
  intro y m stop hm1 hm2 hm3
  have hv' := Vial.ok_iff.1 hv
  have hzl : (zs v l).length = (zerosOf v l (allZ v)).length := by simp [zs]
  simp (decide := true) (maxSteps := 4000000) only [go_sem, Nat.reduceAdd, Nat.reduceSub, Nat.reduceMul, Nat.reduceDiv, Nat.reduceMod, Nat.reduceLT, Nat.reduceLeDiff, Nat.reduceEqDiff, Nat.reduceBEq, Nat.reduceBNe, Nat.reduceGT, Int.reduceAdd, Int.reduceSub, Int.reduceMul, Int.reduceNeg, Int.reduceLT, Int.reduceLE, Int.reduceEq, Int.reduceNe, Int.reduceBEq, Int.reduceBNe, Int.reduceToNat, Int.reduceGT, Int.reduceGE, ↓reduceIte, decide_true, decide_false, Try.f77, Vial.cs]
  refine pwpC_loop (A := { k : Nat // k ≤ (v.z1 - v.z0 + 1).toNat ∧ (stop = true → cz v l k < m) }) (fun k => { env := [(4, .t (.int .i64 (v.z0 + k.1))), (0, .yld y), (1, .t (.cptr v.cs)), (2, .t (.cptr [.sl (l.flatMap Mk.als) l.length full]))], heap := [.cnt (cz v l k.1)] }) (fun k => (v.z1 - v.z0 + 1).toNat - k.1) ⟨0, by omega, fun h => by rw [cz_zero]; exact hm3 h⟩ ?_ (fun k => by rfl) fun ⟨k, hk, hst⟩ => ?_
  · simp (decide := true) (maxSteps := 4000000) only [go_sem, Nat.reduceAdd, Nat.reduceSub, Nat.reduceMul, Nat.reduceDiv, Nat.reduceMod, Nat.reduceLT, Nat.reduceLeDiff, Nat.reduceEqDiff, Nat.reduceBEq, Nat.reduceBNe, Nat.reduceGT, Int.reduceAdd, Int.reduceSub, Int.reduceMul, Int.reduceNeg, Int.reduceLT, Int.reduceLE, Int.reduceEq, Int.reduceNe, Int.reduceBEq, Int.reduceBNe, Int.reduceToNat, Int.reduceGT, Int.reduceGE, ↓reduceIte, decide_true, decide_false, Vial.cs, cz_zero]
    omega
  · by_cases hlt : v.z0 + k ≤ v.z1
    · have hz : 0 ≤ v.z0 + (k : Int) ∧ v.z0 + (k : Int) ≤ 400 := by omega
      have hw : 0 ≤ v.wr ∧ v.wr ≤ 8 := hv'.2.2.2.2
      have hkN : k < (v.z1 - v.z0 + 1).toNat := by omega
      have hz1 : IntKind.i64.wrap (v.z0 + k + 1) = v.z0 + ((k + 1 : Nat) : Int) := by rw [wrap_in (by omega) (by omega)]; omega
      simp (decide := true) (maxSteps := 4000000) only [go_sem, Nat.reduceAdd, Nat.reduceSub, Nat.reduceMul, Nat.reduceDiv, Nat.reduceMod, Nat.reduceLT, Nat.reduceLeDiff, Nat.reduceEqDiff, Nat.reduceBEq, Nat.reduceBNe, Nat.reduceGT, Int.reduceAdd, Int.reduceSub, Int.reduceMul, Int.reduceNeg, Int.reduceLT, Int.reduceLE, Int.reduceEq, Int.reduceNe, Int.reduceBEq, Int.reduceBNe, Int.reduceToNat, Int.reduceGT, Int.reduceGE, ↓reduceIte, decide_true, decide_false, hlt, Vial.cs]
      refine pwpC_loop (A := { i : Nat // i ≤ l.length ∧ (0 < i → (pS v.wr (v.z0 + k) l i).lo ≤ (pS v.wr (v.z0 + k) l i).hi) }) (fun i => { env := [(23, .t (.int .i64 i.1)), (22, .t (.int .i64 l.length)), (21, .t (.sl (l.flatMap Mk.als) l.length full)), (5, .ptr 1 0), (4, .t (.int .i64 (v.z0 + k))), (0, .yld y), (1, .t (.cptr v.cs)), (2, .t (.cptr [.sl (l.flatMap Mk.als) l.length full]))], heap := [.cnt (cz v l k), .box [.t (.int .i64 (pS v.wr (v.z0 + k) l i.1).lo), .t (.int .i64 (pS v.wr (v.z0 + k) l i.1).hi)]] }) (fun i => l.length - i.1) ⟨0, by omega, by omega⟩ ?_ (fun _ => by rfl) fun ⟨i, hi, hle⟩ => ?_
      · simp (decide := true) (maxSteps := 4000000) only [go_sem, Nat.reduceAdd, Nat.reduceSub, Nat.reduceMul, Nat.reduceDiv, Nat.reduceMod, Nat.reduceLT, Nat.reduceLeDiff, Nat.reduceEqDiff, Nat.reduceBEq, Nat.reduceBNe, Nat.reduceGT, Int.reduceAdd, Int.reduceSub, Int.reduceMul, Int.reduceNeg, Int.reduceLT, Int.reduceLE, Int.reduceEq, Int.reduceNe, Int.reduceBEq, Int.reduceBNe, Int.reduceToNat, Int.reduceGT, Int.reduceGE, ↓reduceIte, decide_true, decide_false, Vial.cs, pS]
      · by_cases hil : (i : Int) < l.length
        · obtain ⟨x, hx⟩ := get_lt hil
          have hd := flat_at Mk.als (n := 1) (fun _ => rfl) hx
          have hxm : inB x.at' 0 400 = true := List.all_eq_true.1 hm x (List.mem_of_getElem? hx)
          have hxm' := inB_iff.1 hxm
          have hi1 : IntKind.i64.wrap (i + 1) = ((i + 1 : Nat) : Int) := by rw [wrap_in (by omega) (by omega)]; omega
          have hn1 : pS v.wr (v.z0 + k) l (i + 1) = withinS v.wr (l.take (i + 1)) (v.z0 + k) := by unfold pS; rw [if_neg (by omega)]
          have htk := withinS_take (w := v.wr) (z := v.z0 + k) l (i + 1)
          rcases Nat.eq_zero_or_pos i with h0 | h0
          · subst h0
            have hw1 := pS_one hw hz hxm' hx
            rw [Nat.zero_add] at hn1 htk
            rw [hw1] at hn1 htk
            simp only at htk
            obtain ⟨a, tu⟩ := x
            have hgt : ∀ n : Int, ¬ n - v.wr > n + v.wr := fun n => by omega
            have hd1 : l.length - 1 < l.length := by omega
            cases tu <;> simp only [outM, if_true, if_false, Bool.false_eq_true] at hn1 <;> simp (decide := true) (maxSteps := 4000000) only [go_sem, Nat.reduceAdd, Nat.reduceSub, Nat.reduceMul, Nat.reduceDiv, Nat.reduceMod, Nat.reduceLT, Nat.reduceLeDiff, Nat.reduceEqDiff, Nat.reduceBEq, Nat.reduceBNe, Nat.reduceGT, Int.reduceAdd, Int.reduceSub, Int.reduceMul, Int.reduceNeg, Int.reduceLT, Int.reduceLE, Int.reduceEq, Int.reduceNe, Int.reduceBEq, Int.reduceBNe, Int.reduceToNat, Int.reduceGT, Int.reduceGE, ↓reduceIte, decide_true, decide_false, hil, hd, Mk.als, Mk.al, Vial.cs, hxm, hz, hw, hgt]
            all_goals refine ⟨⟨1, by omega, fun _ => ?_⟩, ?_⟩
            all_goals first | (rw [hn1]; simp only; omega) | (simp (decide := true) (maxSteps := 4000000) only [go_sem, Nat.reduceAdd, Nat.reduceSub, Nat.reduceMul, Nat.reduceDiv, Nat.reduceMod, Nat.reduceLT, Nat.reduceLeDiff, Nat.reduceEqDiff, Nat.reduceBEq, Nat.reduceBNe, Nat.reduceGT, Int.reduceAdd, Int.reduceSub, Int.reduceMul, Int.reduceNeg, Int.reduceLT, Int.reduceLE, Int.reduceEq, Int.reduceNe, Int.reduceBEq, Int.reduceBNe, Int.reduceToNat, Int.reduceGT, Int.reduceGE, ↓reduceIte, decide_true, decide_false, hn1, hd1])
          · have hi0 : (i : Int) > 0 := by omega
            have hs := withinS_snoc (w := v.wr) (z := v.z0 + k) hx
            have hpi : pS v.wr (v.z0 + k) l i = withinS v.wr (l.take i) (v.z0 + k) := by unfold pS; rw [if_neg (by omega)]
            rw [hs] at hn1 htk
            have hd1 : l.length - (i + 1) < l.length - i := by omega
            by_cases hgt : (inS v.wr (v.z0 + k) (withinS v.wr (l.take i) (v.z0 + k)) x).lo > (inS v.wr (v.z0 + k) (withinS v.wr (l.take i) (v.z0 + k)) x).hi
            · have hcz : cz v l (k + 1) = cz v l k := cz_out (by omega)
              obtain ⟨a, tu⟩ := x
              cases tu <;> simp only [inS, outM, if_true, if_false, Bool.false_eq_true] at hgt <;> simp (decide := true) (maxSteps := 4000000) only [go_sem, Nat.reduceAdd, Nat.reduceSub, Nat.reduceMul, Nat.reduceDiv, Nat.reduceMod, Nat.reduceLT, Nat.reduceLeDiff, Nat.reduceEqDiff, Nat.reduceBEq, Nat.reduceBNe, Nat.reduceGT, Int.reduceAdd, Int.reduceSub, Int.reduceMul, Int.reduceNeg, Int.reduceLT, Int.reduceLE, Int.reduceEq, Int.reduceNe, Int.reduceBEq, Int.reduceBNe, Int.reduceToNat, Int.reduceGT, Int.reduceGE, ↓reduceIte, decide_true, decide_false, hil, hi0, hd, Mk.als, Mk.al, Vial.cs, hxm, hz, hw, hpi, hgt]
              all_goals refine ⟨⟨k + 1, by omega, fun h => by rw [hcz]; exact hst h⟩, ?_⟩
              all_goals simp (decide := true) (maxSteps := 4000000) only [go_sem, Nat.reduceAdd, Nat.reduceSub, Nat.reduceMul, Nat.reduceDiv, Nat.reduceMod, Nat.reduceLT, Nat.reduceLeDiff, Nat.reduceEqDiff, Nat.reduceBEq, Nat.reduceBNe, Nat.reduceGT, Int.reduceAdd, Int.reduceSub, Int.reduceMul, Int.reduceNeg, Int.reduceLT, Int.reduceLE, Int.reduceEq, Int.reduceNe, Int.reduceBEq, Int.reduceBNe, Int.reduceToNat, Int.reduceGT, Int.reduceGE, ↓reduceIte, decide_true, decide_false, hz1, hcz, Vial.cs]
              all_goals omega
            · obtain ⟨a, tu⟩ := x
              have hle' : (inS v.wr (v.z0 + k) (withinS v.wr (l.take i) (v.z0 + k)) ⟨a, tu⟩).lo ≤ (inS v.wr (v.z0 + k) (withinS v.wr (l.take i) (v.z0 + k)) ⟨a, tu⟩).hi := by omega
              cases tu <;> simp only [inS, outM, if_true, if_false, Bool.false_eq_true] at hgt <;> simp (decide := true) (maxSteps := 4000000) only [go_sem, Nat.reduceAdd, Nat.reduceSub, Nat.reduceMul, Nat.reduceDiv, Nat.reduceMod, Nat.reduceLT, Nat.reduceLeDiff, Nat.reduceEqDiff, Nat.reduceBEq, Nat.reduceBNe, Nat.reduceGT, Int.reduceAdd, Int.reduceSub, Int.reduceMul, Int.reduceNeg, Int.reduceLT, Int.reduceLE, Int.reduceEq, Int.reduceNe, Int.reduceBEq, Int.reduceBNe, Int.reduceToNat, Int.reduceGT, Int.reduceGE, ↓reduceIte, decide_true, decide_false, hil, hi0, hd, Mk.als, Mk.al, Vial.cs, hxm, hz, hw, hpi, hgt]
              all_goals refine ⟨⟨i + 1, by omega, fun _ => by rw [hn1]; exact hle'⟩, ?_⟩
              all_goals simp (decide := true) (maxSteps := 4000000) only [go_sem, Nat.reduceAdd, Nat.reduceSub, Nat.reduceMul, Nat.reduceDiv, Nat.reduceMod, Nat.reduceLT, Nat.reduceLeDiff, Nat.reduceEqDiff, Nat.reduceBEq, Nat.reduceBNe, Nat.reduceGT, Int.reduceAdd, Int.reduceSub, Int.reduceMul, Int.reduceNeg, Int.reduceLT, Int.reduceLE, Int.reduceEq, Int.reduceNe, Int.reduceBEq, Int.reduceBNe, Int.reduceToNat, Int.reduceGT, Int.reduceGE, ↓reduceIte, decide_true, decide_false, hi1, hn1, inS, outM, hd1, Vial.cs]
        · have hil' : i = l.length := by omega
          subst hil'
          have hpl : pS v.wr (v.z0 + k) l l.length = withinS v.wr l (v.z0 + k) := by unfold pS; rw [if_neg (by omega), List.take_length]
          have hin := hle (by omega)
          rw [hpl] at hin
          have hcz := cz_in hin
          have hat := zs_at hin hkN
          have hc1 := cz_le (v := v) (l := l) (k := k + 1) (by omega)
          have hcm : cz v l k < m := by
            cases stop with
            | true => exact hst rfl
            | false => rw [hm2 rfl, hzl]; omega
          by_cases hs : (stop && cz v l k + 1 == m) = true
          · have hs' := hs
            simp only [Bool.and_eq_true, beq_iff_eq] at hs'
            simp (decide := true) (maxSteps := 4000000) only [go_sem, Nat.reduceAdd, Nat.reduceSub, Nat.reduceMul, Nat.reduceDiv, Nat.reduceMod, Nat.reduceLT, Nat.reduceLeDiff, Nat.reduceEqDiff, Nat.reduceBEq, Nat.reduceBNe, Nat.reduceGT, Int.reduceAdd, Int.reduceSub, Int.reduceMul, Int.reduceNeg, Int.reduceLT, Int.reduceLE, Int.reduceEq, Int.reduceNe, Int.reduceBEq, Int.reduceBNe, Int.reduceToNat, Int.reduceGT, Int.reduceGE, ↓reduceIte, decide_true, decide_false, hil, hpl, hat, hcm, hs, hs'.1, hs'.2, Vial.cs]
          · have hs0 : (stop && cz v l k + 1 == m) = false := by simpa using hs
            simp (decide := true) (maxSteps := 4000000) only [go_sem, Nat.reduceAdd, Nat.reduceSub, Nat.reduceMul, Nat.reduceDiv, Nat.reduceMod, Nat.reduceLT, Nat.reduceLeDiff, Nat.reduceEqDiff, Nat.reduceBEq, Nat.reduceBNe, Nat.reduceGT, Int.reduceAdd, Int.reduceSub, Int.reduceMul, Int.reduceNeg, Int.reduceLT, Int.reduceLE, Int.reduceEq, Int.reduceNe, Int.reduceBEq, Int.reduceBNe, Int.reduceToNat, Int.reduceGT, Int.reduceGE, ↓reduceIte, decide_true, decide_false, hil, hpl, hat, hcm, hs0, Vial.cs]
            refine ⟨⟨k + 1, by omega, fun h => ?_⟩, ?_⟩
            · rw [hcz]; subst h; simp at hs0; omega
            · simp (decide := true) (maxSteps := 4000000) only [go_sem, Nat.reduceAdd, Nat.reduceSub, Nat.reduceMul, Nat.reduceDiv, Nat.reduceMod, Nat.reduceLT, Nat.reduceLeDiff, Nat.reduceEqDiff, Nat.reduceBEq, Nat.reduceBNe, Nat.reduceGT, Int.reduceAdd, Int.reduceSub, Int.reduceMul, Int.reduceNeg, Int.reduceLT, Int.reduceLE, Int.reduceEq, Int.reduceNe, Int.reduceBEq, Int.reduceBNe, Int.reduceToNat, Int.reduceGT, Int.reduceGE, ↓reduceIte, decide_true, decide_false, hz1, hcz, Vial.cs]
              omega
    · simp (decide := true) (maxSteps := 4000000) only [go_sem, Nat.reduceAdd, Nat.reduceSub, Nat.reduceMul, Nat.reduceDiv, Nat.reduceMod, Nat.reduceLT, Nat.reduceLeDiff, Nat.reduceEqDiff, Nat.reduceBEq, Nat.reduceBNe, Nat.reduceGT, Int.reduceAdd, Int.reduceSub, Int.reduceMul, Int.reduceNeg, Int.reduceLT, Int.reduceLE, Int.reduceEq, Int.reduceNe, Int.reduceBEq, Int.reduceBNe, Int.reduceToNat, Int.reduceGT, Int.reduceGE, ↓reduceIte, decide_true, decide_false, hlt, Vial.cs]
      have hkN : k = (v.z1 - v.z0 + 1).toNat := by omega
      subst hkN
      cases stop with
      | false => rw [hm2 rfl, hzl, cz_all]
      | true => have := hst rfl; rw [cz_all] at this; omega
end Go.Proofs.Ytgofljmnlfnlnaa
