/- Level: the walks of the program, 8: fault, does. -/
import Derived.Test.YtgofljmnlfnlnaaLa
import Derived.Test.YtgofljmnlfnlnaaLc
import Derived.Test.YtgofljmnlfnlnaaLq
namespace Go.Proofs.Ytgofljmnlfnlnaa
open Go.RowKit Go.Pm Go.Oc
set_option maxRecDepth 100000
set_option linter.unusedVariables false
set_option maxHeartbeats 1000000

noncomputable def spD1 : Pm.Spec := spL5.one 59 glWidth
attribute [go_sem] spD1
theorem spD1_ok : SpecOk Try.prog spD1 := Spec.one_ok glWidth_ok spL5_ok
theorem unAls_one (a : Int) : unAls [.ifc 98 (.agg [.int .i64 a, .fn 73 [] []])] = some [⟨a, false⟩] := rfl
theorem unAls_oneT (a : Int) : unAls [.ifc 98 (.agg [.int .i64 a, .fn 74 [] []])] = some [⟨a, true⟩] := rfl
attribute [go_sem] unAls_one unAls_oneT
theorem lFault_c (v : Vial) (hv : v.ok = true) : PCalls Try.prog 75 [v.t] (.int .i64 (faultOf v)) := by
  have hv' := Vial.ok_iff.1 hv
  refine pcalls_by Try.mixes spD1_ok (fn := Try.f75) Try.func75 rfl (by kernel_rfl) (by show 1 ≤ _; decide) ?_
  have w1 : IntKind.i64.wrap (2 * v.marks) = 2 * v.marks := wrap_in (by omega) (by omega)
  have w2 : IntKind.i64.wrap (2 * v.marks + 1) = 2 * v.marks + 1 := wrap_in (by omega) (by omega)
  have w3 : IntKind.i64.wrap (2 * v.marks - v.l1) = 2 * v.marks - v.l1 := wrap_in (by omega) (by omega)
  simp (decide := true) (maxSteps := 4000000) only [go_sem, Nat.reduceAdd, Nat.reduceSub, Nat.reduceMul, Nat.reduceDiv, Nat.reduceMod, Nat.reduceLT, Nat.reduceLeDiff, Nat.reduceEqDiff, Nat.reduceBEq, Nat.reduceBNe, Nat.reduceGT, Int.reduceAdd, Int.reduceSub, Int.reduceMul, Int.reduceNeg, Int.reduceLT, Int.reduceLE, Int.reduceEq, Int.reduceNe, Int.reduceBEq, Int.reduceBNe, Int.reduceToNat, Int.reduceGT, Int.reduceGE, ↓reduceIte, decide_true, decide_false, Try.f75, Vial.t, Vial.cs, w1, w2]
  refine pwpC_loop (A := { k : Nat // k ≤ (2 * v.marks + 1).toNat }) (fun k => { env := [(13, .t (.int .i64 k.1)), (12, .t (.int .i64 (2 * v.marks + 1))), (1, .ptr 0 0), (3, .t (.int .i64 (faultTo v k.1)))], heap := [.box (v.cs.map .t)] }) (fun k => (2 * v.marks + 1).toNat - k.1) ⟨0, by omega⟩ ?_ (fun k => by rfl) fun ⟨k, hk⟩ => ?_
  · simp (decide := true) (maxSteps := 4000000) only [go_sem, Nat.reduceAdd, Nat.reduceSub, Nat.reduceMul, Nat.reduceDiv, Nat.reduceMod, Nat.reduceLT, Nat.reduceLeDiff, Nat.reduceEqDiff, Nat.reduceBEq, Nat.reduceBNe, Nat.reduceGT, Int.reduceAdd, Int.reduceSub, Int.reduceMul, Int.reduceNeg, Int.reduceLT, Int.reduceLE, Int.reduceEq, Int.reduceNe, Int.reduceBEq, Int.reduceBNe, Int.reduceToNat, Int.reduceGT, Int.reduceGE, ↓reduceIte, decide_true, decide_false, Vial.cs, faultTo, range]
  · by_cases hlt : (k : Int) < 2 * v.marks + 1
    · have hc1 : IntKind.i64.wrap (k + 1) = ((k + 1 : Nat) : Int) := by rw [wrap_in (by omega) (by omega)]; omega
      have hd1 : (2 * v.marks + 1).toNat - (k + 1) < (2 * v.marks + 1).toNat - k := by omega
      have hs := faultTo_succ v k
      unfold faultStep at hs
      cases hb : inB k v.l1 (2 * v.marks - v.l1) with
      | false =>
        rw [hb] at hs
        simp (decide := true) (maxSteps := 4000000) only [go_sem, Nat.reduceAdd, Nat.reduceSub, Nat.reduceMul, Nat.reduceDiv, Nat.reduceMod, Nat.reduceLT, Nat.reduceLeDiff, Nat.reduceEqDiff, Nat.reduceBEq, Nat.reduceBNe, Nat.reduceGT, Int.reduceAdd, Int.reduceSub, Int.reduceMul, Int.reduceNeg, Int.reduceLT, Int.reduceLE, Int.reduceEq, Int.reduceNe, Int.reduceBEq, Int.reduceBNe, Int.reduceToNat, Int.reduceGT, Int.reduceGE, ↓reduceIte, decide_true, decide_false, hlt, Vial.cs, w1, w3, hb]
        refine ⟨⟨k + 1, by omega⟩, ?_⟩
        simp (decide := true) (maxSteps := 4000000) only [go_sem, Nat.reduceAdd, Nat.reduceSub, Nat.reduceMul, Nat.reduceDiv, Nat.reduceMod, Nat.reduceLT, Nat.reduceLeDiff, Nat.reduceEqDiff, Nat.reduceBEq, Nat.reduceBNe, Nat.reduceGT, Int.reduceAdd, Int.reduceSub, Int.reduceMul, Int.reduceNeg, Int.reduceLT, Int.reduceLE, Int.reduceEq, Int.reduceNe, Int.reduceBEq, Int.reduceBNe, Int.reduceToNat, Int.reduceGT, Int.reduceGE, ↓reduceIte, decide_true, decide_false, hc1, hd1, Vial.cs, hs]
      | true =>
        rw [hb] at hs
        have hm : mksOk [(⟨k, false⟩ : Mk)] = true := by simp [mksOk, inB]; omega
        have hbd := tilts_bound hv hm
        have hfb := faultTo_bound hv k (by omega)
        cases hi : (tilts v [⟨k, false⟩]).is with
        | false =>
          rw [hi] at hs
          simp (decide := true) (maxSteps := 4000000) only [go_sem, Nat.reduceAdd, Nat.reduceSub, Nat.reduceMul, Nat.reduceDiv, Nat.reduceMod, Nat.reduceLT, Nat.reduceLeDiff, Nat.reduceEqDiff, Nat.reduceBEq, Nat.reduceBNe, Nat.reduceGT, Int.reduceAdd, Int.reduceSub, Int.reduceMul, Int.reduceNeg, Int.reduceLT, Int.reduceLE, Int.reduceEq, Int.reduceNe, Int.reduceBEq, Int.reduceBNe, Int.reduceToNat, Int.reduceGT, Int.reduceGE, ↓reduceIte, decide_true, decide_false, hlt, Vial.cs, w1, w3, hb, hv, hm, hi, TZ.t, Span.t, Span.cs]
          refine ⟨⟨k + 1, by omega⟩, ?_⟩
          simp (decide := true) (maxSteps := 4000000) only [go_sem, Nat.reduceAdd, Nat.reduceSub, Nat.reduceMul, Nat.reduceDiv, Nat.reduceMod, Nat.reduceLT, Nat.reduceLeDiff, Nat.reduceEqDiff, Nat.reduceBEq, Nat.reduceBNe, Nat.reduceGT, Int.reduceAdd, Int.reduceSub, Int.reduceMul, Int.reduceNeg, Int.reduceLT, Int.reduceLE, Int.reduceEq, Int.reduceNe, Int.reduceBEq, Int.reduceBNe, Int.reduceToNat, Int.reduceGT, Int.reduceGE, ↓reduceIte, decide_true, decide_false, hc1, hd1, Vial.cs, hs]
        | true =>
          rw [hi] at hs
          unfold wideT at hs
          have w4 : IntKind.i64.wrap ((tilts v [⟨k, false⟩]).tilt.hi - (tilts v [⟨k, false⟩]).tilt.lo) = (tilts v [⟨k, false⟩]).tilt.hi - (tilts v [⟨k, false⟩]).tilt.lo := wrap_in (by omega) (by omega)
          by_cases hz : (tilts v [⟨k, false⟩]).tilt = ⟨0, 0⟩
          · simp (decide := true) (maxSteps := 4000000) only [go_sem, Nat.reduceAdd, Nat.reduceSub, Nat.reduceMul, Nat.reduceDiv, Nat.reduceMod, Nat.reduceLT, Nat.reduceLeDiff, Nat.reduceEqDiff, Nat.reduceBEq, Nat.reduceBNe, Nat.reduceGT, Int.reduceAdd, Int.reduceSub, Int.reduceMul, Int.reduceNeg, Int.reduceLT, Int.reduceLE, Int.reduceEq, Int.reduceNe, Int.reduceBEq, Int.reduceBNe, Int.reduceToNat, Int.reduceGT, Int.reduceGE, ↓reduceIte, decide_true, decide_false, hlt, Vial.cs, w1, w3, hb, hv, hm, hi, TZ.t, Span.t, Span.cs, hz]
            refine ⟨⟨k + 1, by omega⟩, ?_⟩
            simp (decide := true) (maxSteps := 4000000) only [go_sem, Nat.reduceAdd, Nat.reduceSub, Nat.reduceMul, Nat.reduceDiv, Nat.reduceMod, Nat.reduceLT, Nat.reduceLeDiff, Nat.reduceEqDiff, Nat.reduceBEq, Nat.reduceBNe, Nat.reduceGT, Int.reduceAdd, Int.reduceSub, Int.reduceMul, Int.reduceNeg, Int.reduceLT, Int.reduceLE, Int.reduceEq, Int.reduceNe, Int.reduceBEq, Int.reduceBNe, Int.reduceToNat, Int.reduceGT, Int.reduceGE, ↓reduceIte, decide_true, decide_false, hc1, hd1, Vial.cs, hs, hz]
            omega
          · have hz' : (!((tilts v [⟨k, false⟩]).tilt.lo == 0 && (tilts v [⟨k, false⟩]).tilt.hi == 0)) = true := by
              rw [Bool.not_eq_true', ← Bool.not_eq_true]
              simp only [Bool.and_eq_true, beq_iff_eq]
              rintro ⟨a, b⟩; apply hz
              cases ht : (tilts v [⟨k, false⟩]).tilt; rw [ht] at a b; simp only at a b; rw [a, b]
            simp (decide := true) (maxSteps := 4000000) only [go_sem, Nat.reduceAdd, Nat.reduceSub, Nat.reduceMul, Nat.reduceDiv, Nat.reduceMod, Nat.reduceLT, Nat.reduceLeDiff, Nat.reduceEqDiff, Nat.reduceBEq, Nat.reduceBNe, Nat.reduceGT, Int.reduceAdd, Int.reduceSub, Int.reduceMul, Int.reduceNeg, Int.reduceLT, Int.reduceLE, Int.reduceEq, Int.reduceNe, Int.reduceBEq, Int.reduceBNe, Int.reduceToNat, Int.reduceGT, Int.reduceGE, ↓reduceIte, decide_true, decide_false, hlt, Vial.cs, w1, w3, hb, hv, hm, hi, TZ.t, Span.t, Span.cs, hz', w4]
            refine ⟨⟨k + 1, by omega⟩, ?_⟩
            simp (decide := true) (maxSteps := 4000000) only [go_sem, Nat.reduceAdd, Nat.reduceSub, Nat.reduceMul, Nat.reduceDiv, Nat.reduceMod, Nat.reduceLT, Nat.reduceLeDiff, Nat.reduceEqDiff, Nat.reduceBEq, Nat.reduceBNe, Nat.reduceGT, Int.reduceAdd, Int.reduceSub, Int.reduceMul, Int.reduceNeg, Int.reduceLT, Int.reduceLE, Int.reduceEq, Int.reduceNe, Int.reduceBEq, Int.reduceBNe, Int.reduceToNat, Int.reduceGT, Int.reduceGE, ↓reduceIte, decide_true, decide_false, hc1, hd1, Vial.cs, hs]
    · have hkl : k = (2 * v.marks + 1).toNat := by omega
      simp (decide := true) (maxSteps := 4000000) only [go_sem, Nat.reduceAdd, Nat.reduceSub, Nat.reduceMul, Nat.reduceDiv, Nat.reduceMod, Nat.reduceLT, Nat.reduceLeDiff, Nat.reduceEqDiff, Nat.reduceBEq, Nat.reduceBNe, Nat.reduceGT, Int.reduceAdd, Int.reduceSub, Int.reduceMul, Int.reduceNeg, Int.reduceLT, Int.reduceLE, Int.reduceEq, Int.reduceNe, Int.reduceBEq, Int.reduceBNe, Int.reduceToNat, Int.reduceGT, Int.reduceGE, ↓reduceIte, decide_true, decide_false, hlt, Vial.cs]
      rw [hkl]; rfl
noncomputable def glFault : List TV → Option TV
  | [.agg [.int .i64 m, .int .i64 a, .int .i64 b, .int .i64 c, .int .i64 d, .int .i64 e, .int .i64 f, .int .i64 g]] => if Vial.ok ⟨m, a, b, c, d, e, f, g⟩ = true then some (.int .i64 (faultOf ⟨m, a, b, c, d, e, f, g⟩)) else none
  | _ => none
theorem glFault_ok : ∀ xs r, glFault xs = some r → PCalls Try.prog 75 xs r := by
  intro xs r h
  unfold glFault at h
  split at h
  · split at h
    · rename_i hc; cases h; exact lFault_c ⟨_, _, _, _, _, _, _, _⟩ hc
    · cases h
  · cases h
attribute [go_sem] glFault
noncomputable def spD2 : Pm.Spec := spD1.one 75 glFault
attribute [go_sem] spD2
theorem spD2_ok : SpecOk Try.prog spD2 := Spec.one_ok glFault_ok spD1_ok
theorem lDoes_c (v : Vial) (hv : v.ok = true) (rg fl : Int) : PCalls Try.prog 64 [v.t, .agg [.int .i64 rg, .int .i64 fl]] (.bool (doesP v rg fl)) := by
  have hv' := Vial.ok_iff.1 hv
  refine pcalls_by Try.mixes spD2_ok (fn := Try.f64) Try.func64 rfl (by kernel_rfl) (by show 2 ≤ _; decide) ?_
  have w1 : IntKind.i64.wrap (2 * v.marks) = 2 * v.marks := wrap_in (by omega) (by omega)
  have w3 : IntKind.i64.wrap (2 * v.marks - v.l1) = 2 * v.marks - v.l1 := wrap_in (by omega) (by omega)
  have w4 : IntKind.i64.wrap (2 * v.marks - v.l1 - v.z1) = 2 * v.marks - v.l1 - v.z1 := wrap_in (by omega) (by omega)
  have w5 : IntKind.i64.wrap (v.z0 - v.l1) = v.z0 - v.l1 := wrap_in (by omega) (by omega)
  have hmb : -10000 ≤ min (v.z0 - v.l1) (2 * v.marks - v.l1 - v.z1) ∧ min (v.z0 - v.l1) (2 * v.marks - v.l1 - v.z1) ≤ 10000 := by omega
  have p := mulB (a := min (v.z0 - v.l1) (2 * v.marks - v.l1 - v.z1)) (b := v.v0) hmb (by omega)
  have w6 : IntKind.i64.wrap (v.v0 * min (v.z0 - v.l1) (2 * v.marks - v.l1 - v.z1)) = v.v0 * min (v.z0 - v.l1) (2 * v.marks - v.l1 - v.z1) := by rw [Int.mul_comm]; exact wrap_in (by omega) (by omega)
  unfold doesP
  by_cases h1 : min (v.z0 - v.l1) (2 * v.marks - v.l1 - v.z1) ≥ 0
  · by_cases h2 : rg ≤ v.v0 * min (v.z0 - v.l1) (2 * v.marks - v.l1 - v.z1) <;> simp (decide := true) (maxSteps := 4000000) only [go_sem, Nat.reduceAdd, Nat.reduceSub, Nat.reduceMul, Nat.reduceDiv, Nat.reduceMod, Nat.reduceLT, Nat.reduceLeDiff, Nat.reduceEqDiff, Nat.reduceBEq, Nat.reduceBNe, Nat.reduceGT, Int.reduceAdd, Int.reduceSub, Int.reduceMul, Int.reduceNeg, Int.reduceLT, Int.reduceLE, Int.reduceEq, Int.reduceNe, Int.reduceBEq, Int.reduceBNe, Int.reduceToNat, Int.reduceGT, Int.reduceGE, ↓reduceIte, decide_true, decide_false, Try.f64, Vial.t, Vial.cs, w1, w3, w4, w5, w6, h1, h2, hv]
  · simp (decide := true) (maxSteps := 4000000) only [go_sem, Nat.reduceAdd, Nat.reduceSub, Nat.reduceMul, Nat.reduceDiv, Nat.reduceMod, Nat.reduceLT, Nat.reduceLeDiff, Nat.reduceEqDiff, Nat.reduceBEq, Nat.reduceBNe, Nat.reduceGT, Int.reduceAdd, Int.reduceSub, Int.reduceMul, Int.reduceNeg, Int.reduceLT, Int.reduceLE, Int.reduceEq, Int.reduceNe, Int.reduceBEq, Int.reduceBNe, Int.reduceToNat, Int.reduceGT, Int.reduceGE, ↓reduceIte, decide_true, decide_false, Try.f64, Vial.t, Vial.cs, w1, w3, w4, w5, w6, h1, hv]
noncomputable def glDoes : List TV → Option TV
  | [.agg [.int .i64 m, .int .i64 a, .int .i64 b, .int .i64 c, .int .i64 d, .int .i64 e, .int .i64 f, .int .i64 g], .agg [.int .i64 rg, .int .i64 fl]] => if Vial.ok ⟨m, a, b, c, d, e, f, g⟩ = true then some (.bool (doesP ⟨m, a, b, c, d, e, f, g⟩ rg fl)) else none
  | _ => none
theorem glDoes_ok : ∀ xs r, glDoes xs = some r → PCalls Try.prog 64 xs r := by
  intro xs r h
  unfold glDoes at h
  split at h
  · split at h
    · rename_i hc; cases h; exact lDoes_c ⟨_, _, _, _, _, _, _, _⟩ hc _ _
    · cases h
  · cases h
attribute [go_sem] glDoes
noncomputable def spD3 : Pm.Spec := spD2.one 64 glDoes
attribute [go_sem] spD3
theorem spD3_ok : SpecOk Try.prog spD3 := Spec.one_ok glDoes_ok spD2_ok
end Go.Proofs.Ytgofljmnlfnlnaa
