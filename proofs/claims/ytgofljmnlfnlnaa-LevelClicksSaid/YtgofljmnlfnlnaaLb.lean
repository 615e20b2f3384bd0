/- Level: the walks of the program, 7: Tilt, Can. -/
import Derived.Test.YtgofljmnlfnlnaaLa
namespace Go.Proofs.Ytgofljmnlfnlnaa
open Go.RowKit Go.Pm Go.Oc
set_option maxRecDepth 100000
set_option linter.unusedVariables false
set_option maxHeartbeats 1000000

theorem openedT_no {v : Vial} {l : List Rd} (h : asked v l ≠ 0) : ∃ u : Vial, openedT v l = .tup [u.t, .nilSl, .int .i64 (asked v l)] := by
  unfold openedT asked at *
  cases hv : v.ok
  · exact ⟨⟨0, 0, 0, 0, 0, 0, 0, 0⟩, by simp⟩
  · cases hr : rdsOk v l
    · exact ⟨v, by simp⟩
    · simp [hv, hr] at h
theorem openedT_yes {v : Vial} {l : List Rd} (h : asked v l = 0) : openedT v l = .tup [v.t, .sl ((l.map mid).flatMap Mk.als) l.length false, .int .i64 0] := by
  obtain ⟨hv, hr⟩ := asked_zero h
  unfold openedT; simp [hv, hr]
/-- A row as it comes in: not too long. -/
def Len24 {α : Type} (l : List α) : Prop := l.length ≤ 5864062014806
theorem lTilt_c (v : Vial) {l : List Rd} {s : TV} (hs : IsRow Rd.cs s l) (hl : l.length ≤ 5864062014806) : PCalls Try.prog 20 [v.t, s] (tiltR v l).t := by
  refine pcalls_by Try.mixes spL5_ok (fn := Try.f20) Try.func20 rfl (by kernel_rfl) (by show 2 ≤ _; decide) ?_
  unfold tiltR
  by_cases hk : asked v l = 0
  · obtain ⟨hv, hr⟩ := asked_zero hk
    have hm := mksOk_mid hv hr
    have h8 := rdsOk_len hr
    have h100 : l.length ≤ 100 := by omega
    have ho := openedT_yes hk
    obtain ⟨full, rfl⟩ := hs.ne h8.1
    cases hi : (tilts v (l.map mid)).is <;> simp (decide := true) (maxSteps := 4000000) only [go_sem, Nat.reduceAdd, Nat.reduceSub, Nat.reduceMul, Nat.reduceDiv, Nat.reduceMod, Nat.reduceLT, Nat.reduceLeDiff, Nat.reduceEqDiff, Nat.reduceBEq, Nat.reduceBNe, Nat.reduceGT, Int.reduceAdd, Int.reduceSub, Int.reduceMul, Int.reduceNeg, Int.reduceLT, Int.reduceLE, Int.reduceEq, Int.reduceNe, Int.reduceBEq, Int.reduceBNe, Int.reduceToNat, Int.reduceGT, Int.reduceGE, ↓reduceIte, decide_true, decide_false, Try.f20, Vial.t, Vial.cs, hk, hl, ho, hv, h8.1, h8.2, h100, hm, List.length_map, TZ.t, Span.t, Span.cs, hi, TE.t]
  · obtain ⟨u, ho⟩ := openedT_no hk
    have hk' : (asked v l != 0) = true := by simpa using hk
    rcases hs with ⟨rfl, rfl⟩ | ⟨full, rfl⟩ <;> simp (decide := true) (maxSteps := 4000000) only [go_sem, Nat.reduceAdd, Nat.reduceSub, Nat.reduceMul, Nat.reduceDiv, Nat.reduceMod, Nat.reduceLT, Nat.reduceLeDiff, Nat.reduceEqDiff, Nat.reduceBEq, Nat.reduceBNe, Nat.reduceGT, Int.reduceAdd, Int.reduceSub, Int.reduceMul, Int.reduceNeg, Int.reduceLT, Int.reduceLE, Int.reduceEq, Int.reduceNe, Int.reduceBEq, Int.reduceBNe, Int.reduceToNat, Int.reduceGT, Int.reduceGE, ↓reduceIte, decide_true, decide_false, Try.f20, Vial.t, Vial.cs, unRds, hl, ho, hk, hk', TE.t, Span.t, Span.cs]
def canB (v : Vial) (l : List Mk) (tv tz tt : Int) : Bool := l.all fun m => inB tt (tv * (outM m tz - v.wr)) (tv * (outM m tz + v.wr))
/-- What Can hands back. -/
def canP (v : Vial) (l : List Rd) (tv tz tt : Int) : Bool × Int :=
  if asked v l = 0 then (if inB tv v.v0 v.v1 = true ∧ inB tz v.z0 v.z1 = true then (canB v (l.map mid) tv tz tt, 0) else (false, 32)) else (false, asked v l)
theorem lCan_c (v : Vial) {l : List Rd} {s : TV} (hs : IsRow Rd.cs s l) (hl : l.length ≤ 5864062014806) (tv tz tt : Int) : PCalls Try.prog 16 [v.t, s, .agg [.int .i64 tv, .int .i64 tz, .int .i64 tt]] (.tup [.bool (canP v l tv tz tt).1, .int .i64 (canP v l tv tz tt).2]) := by
  refine pcalls_by Try.mixes spL5_ok (fn := Try.f16) Try.func16 rfl (by kernel_rfl) (by show 3 ≤ _; decide) ?_
  unfold canP
  by_cases hk : asked v l = 0
  · obtain ⟨hv, hr⟩ := asked_zero hk
    have hv' := Vial.ok_iff.1 hv
    have hm := mksOk_mid hv hr
    have h8 := rdsOk_len hr
    have h100 : l.length ≤ 100 := by omega
    have ho := openedT_yes hk
    obtain ⟨full, rfl⟩ := hs.ne h8.1
    cases h1 : inB tv v.v0 v.v1 with
    | false => simp (decide := true) (maxSteps := 4000000) only [go_sem, Nat.reduceAdd, Nat.reduceSub, Nat.reduceMul, Nat.reduceDiv, Nat.reduceMod, Nat.reduceLT, Nat.reduceLeDiff, Nat.reduceEqDiff, Nat.reduceBEq, Nat.reduceBNe, Nat.reduceGT, Int.reduceAdd, Int.reduceSub, Int.reduceMul, Int.reduceNeg, Int.reduceLT, Int.reduceLE, Int.reduceEq, Int.reduceNe, Int.reduceBEq, Int.reduceBNe, Int.reduceToNat, Int.reduceGT, Int.reduceGE, ↓reduceIte, decide_true, decide_false, Try.f16, Vial.t, Vial.cs, hk, hl, ho, h1]
    | true =>
      cases h2 : inB tz v.z0 v.z1 with
      | false => simp (decide := true) (maxSteps := 4000000) only [go_sem, Nat.reduceAdd, Nat.reduceSub, Nat.reduceMul, Nat.reduceDiv, Nat.reduceMod, Nat.reduceLT, Nat.reduceLeDiff, Nat.reduceEqDiff, Nat.reduceBEq, Nat.reduceBNe, Nat.reduceGT, Int.reduceAdd, Int.reduceSub, Int.reduceMul, Int.reduceNeg, Int.reduceLT, Int.reduceLE, Int.reduceEq, Int.reduceNe, Int.reduceBEq, Int.reduceBNe, Int.reduceToNat, Int.reduceGT, Int.reduceGE, ↓reduceIte, decide_true, decide_false, Try.f16, Vial.t, Vial.cs, hk, hl, ho, h1, h2]
      | true =>
        have h1' := inB_iff.1 h1
        have h2' := inB_iff.1 h2
        have hz : 0 ≤ tz ∧ tz ≤ 400 := by omega
        have hw : 0 ≤ v.wr ∧ v.wr ≤ 8 := hv'.2.2.2.2
        simp (decide := true) (maxSteps := 4000000) only [go_sem, Nat.reduceAdd, Nat.reduceSub, Nat.reduceMul, Nat.reduceDiv, Nat.reduceMod, Nat.reduceLT, Nat.reduceLeDiff, Nat.reduceEqDiff, Nat.reduceBEq, Nat.reduceBNe, Nat.reduceGT, Int.reduceAdd, Int.reduceSub, Int.reduceMul, Int.reduceNeg, Int.reduceLT, Int.reduceLE, Int.reduceEq, Int.reduceNe, Int.reduceBEq, Int.reduceBNe, Int.reduceToNat, Int.reduceGT, Int.reduceGE, ↓reduceIte, decide_true, decide_false, Try.f16, Vial.t, Vial.cs, hk, hl, ho, h1, h2]
        refine pwpC_loop (A := { k : Nat // k ≤ l.length ∧ canB v ((l.map mid).take k) tv tz tt = true }) (fun k => { env := [(52, .t (.int .i64 k.1)), (51, .t (.int .i64 l.length)), (50, .t (.sl ((l.map mid).flatMap Mk.als) l.length false)), (8, .ptr 2 0), (5, .ptr 1 0)], heap := [.box (v.cs.map .t), .box [.t (.int .i64 tv), .t (.int .i64 tz), .t (.int .i64 tt)], .box (v.cs.map .t)] }) (fun k => l.length - k.1) ⟨0, by omega, rfl⟩ ?_ (fun k => by rfl) fun ⟨k, hk1, hk2⟩ => ?_
        · simp (decide := true) (maxSteps := 4000000) only [go_sem, Nat.reduceAdd, Nat.reduceSub, Nat.reduceMul, Nat.reduceDiv, Nat.reduceMod, Nat.reduceLT, Nat.reduceLeDiff, Nat.reduceEqDiff, Nat.reduceBEq, Nat.reduceBNe, Nat.reduceGT, Int.reduceAdd, Int.reduceSub, Int.reduceMul, Int.reduceNeg, Int.reduceLT, Int.reduceLE, Int.reduceEq, Int.reduceNe, Int.reduceBEq, Int.reduceBNe, Int.reduceToNat, Int.reduceGT, Int.reduceGE, ↓reduceIte, decide_true, decide_false, Vial.cs]
        · by_cases hlt : (k : Int) < l.length
          · have hlt' : (k : Int) < (l.map mid).length := by simpa using hlt
            obtain ⟨x, hx⟩ := get_lt hlt'
            have hd := flat_at Mk.als (n := 1) (fun _ => rfl) hx
            have hxm : inB x.at' 0 400 = true := List.all_eq_true.1 hm x (List.mem_of_getElem? hx)
            have hxm' := inB_iff.1 hxm
            have hc1 : IntKind.i64.wrap (k + 1) = ((k + 1 : Nat) : Int) := by rw [wrap_in (by omega) (by omega)]; omega
            have hd1 : l.length - (k + 1) < l.length - k := by omega
            have ho1 : -1000 ≤ outM x tz ∧ outM x tz ≤ 1000 := by unfold outM; split <;> omega
            have p1 := mulB (a := outM x tz - v.wr) (b := tv) (by omega) (by omega)
            have p2 := mulB (a := outM x tz + v.wr) (b := tv) (by omega) (by omega)
            have w1 : IntKind.i64.wrap (tv * (outM x tz - v.wr)) = tv * (outM x tz - v.wr) := by rw [Int.mul_comm]; exact wrap_in (by omega) (by omega)
            have w2 : IntKind.i64.wrap (tv * (outM x tz + v.wr)) = tv * (outM x tz + v.wr) := by rw [Int.mul_comm]; exact wrap_in (by omega) (by omega)
            have htk := take_all (fun m => inB tt (tv * (outM m tz - v.wr)) (tv * (outM m tz + v.wr))) hx
            cases hb : inB tt (tv * (outM x tz - v.wr)) (tv * (outM x tz + v.wr)) with
            | false =>
              have hf : canB v (l.map mid) tv tz tt = false := by
                unfold canB
                refine all_of_take (k := k + 1) ?_
                rw [htk, hb, Bool.and_false]
              obtain ⟨a, tu⟩ := x
              cases tu <;> simp only [outM, if_true, if_false, Bool.false_eq_true] at w1 w2 hb <;> simp (decide := true) (maxSteps := 4000000) only [go_sem, Nat.reduceAdd, Nat.reduceSub, Nat.reduceMul, Nat.reduceDiv, Nat.reduceMod, Nat.reduceLT, Nat.reduceLeDiff, Nat.reduceEqDiff, Nat.reduceBEq, Nat.reduceBNe, Nat.reduceGT, Int.reduceAdd, Int.reduceSub, Int.reduceMul, Int.reduceNeg, Int.reduceLT, Int.reduceLE, Int.reduceEq, Int.reduceNe, Int.reduceBEq, Int.reduceBNe, Int.reduceToNat, Int.reduceGT, Int.reduceGE, ↓reduceIte, decide_true, decide_false, hlt, hd, Mk.als, Mk.al, Vial.cs, hxm, hz, hw, w1, w2, hb, hf]
            | true =>
              have ht : canB v ((l.map mid).take (k + 1)) tv tz tt = true := by
                unfold canB at hk2 ⊢
                rw [htk, hb, hk2]; rfl
              obtain ⟨a, tu⟩ := x
              cases tu <;> simp only [outM, if_true, if_false, Bool.false_eq_true] at w1 w2 hb <;> simp (decide := true) (maxSteps := 4000000) only [go_sem, Nat.reduceAdd, Nat.reduceSub, Nat.reduceMul, Nat.reduceDiv, Nat.reduceMod, Nat.reduceLT, Nat.reduceLeDiff, Nat.reduceEqDiff, Nat.reduceBEq, Nat.reduceBNe, Nat.reduceGT, Int.reduceAdd, Int.reduceSub, Int.reduceMul, Int.reduceNeg, Int.reduceLT, Int.reduceLE, Int.reduceEq, Int.reduceNe, Int.reduceBEq, Int.reduceBNe, Int.reduceToNat, Int.reduceGT, Int.reduceGE, ↓reduceIte, decide_true, decide_false, hlt, hd, Mk.als, Mk.al, Vial.cs, hxm, hz, hw, w1, w2, hb]
              all_goals refine ⟨⟨k + 1, by omega, ht⟩, ?_⟩
              all_goals simp (decide := true) (maxSteps := 4000000) only [go_sem, Nat.reduceAdd, Nat.reduceSub, Nat.reduceMul, Nat.reduceDiv, Nat.reduceMod, Nat.reduceLT, Nat.reduceLeDiff, Nat.reduceEqDiff, Nat.reduceBEq, Nat.reduceBNe, Nat.reduceGT, Int.reduceAdd, Int.reduceSub, Int.reduceMul, Int.reduceNeg, Int.reduceLT, Int.reduceLE, Int.reduceEq, Int.reduceNe, Int.reduceBEq, Int.reduceBNe, Int.reduceToNat, Int.reduceGT, Int.reduceGE, ↓reduceIte, decide_true, decide_false, hc1, hd1, Vial.cs]
          · have hkl : k = (l.map mid).length := by rw [List.length_map]; omega
            rw [hkl, List.take_length] at hk2
            simp (decide := true) (maxSteps := 4000000) only [go_sem, Nat.reduceAdd, Nat.reduceSub, Nat.reduceMul, Nat.reduceDiv, Nat.reduceMod, Nat.reduceLT, Nat.reduceLeDiff, Nat.reduceEqDiff, Nat.reduceBEq, Nat.reduceBNe, Nat.reduceGT, Int.reduceAdd, Int.reduceSub, Int.reduceMul, Int.reduceNeg, Int.reduceLT, Int.reduceLE, Int.reduceEq, Int.reduceNe, Int.reduceBEq, Int.reduceBNe, Int.reduceToNat, Int.reduceGT, Int.reduceGE, ↓reduceIte, decide_true, decide_false, hlt, hk2]
  · obtain ⟨u, ho⟩ := openedT_no hk
    have hk' : (asked v l != 0) = true := by simpa using hk
    rcases hs with ⟨rfl, rfl⟩ | ⟨full, rfl⟩ <;> simp (decide := true) (maxSteps := 4000000) only [go_sem, Nat.reduceAdd, Nat.reduceSub, Nat.reduceMul, Nat.reduceDiv, Nat.reduceMod, Nat.reduceLT, Nat.reduceLeDiff, Nat.reduceEqDiff, Nat.reduceBEq, Nat.reduceBNe, Nat.reduceGT, Int.reduceAdd, Int.reduceSub, Int.reduceMul, Int.reduceNeg, Int.reduceLT, Int.reduceLE, Int.reduceEq, Int.reduceNe, Int.reduceBEq, Int.reduceBNe, Int.reduceToNat, Int.reduceGT, Int.reduceGE, ↓reduceIte, decide_true, decide_false, Try.f16, Vial.t, Vial.cs, unRds, hl, ho, hk, hk']
end Go.Proofs.Ytgofljmnlfnlnaa
