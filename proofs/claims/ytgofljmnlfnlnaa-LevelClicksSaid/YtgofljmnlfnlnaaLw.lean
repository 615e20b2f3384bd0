/- Level: the walks of the program, 2. -/
import Derived.Test.YtgofljmnlfnlnaaLu
namespace Go.Proofs.Ytgofljmnlfnlnaa
open Go.RowKit Go.Pm Go.Oc
set_option maxRecDepth 100000
set_option linter.unusedVariables false
set_option maxHeartbeats 1000000

def midW (r : Rd) : Mk := ⟨IntKind.i64.wrap (r.left + r.right), r.turned⟩
theorem rdsOk_mem {v : Vial} {l : List Rd} (h : rdsOk v l = true) {r : Rd} (hr : r ∈ l) : 0 ≤ r.left ∧ r.left < r.right ∧ r.right ≤ v.marks ∧ v.l0 - v.wr ≤ r.right - r.left ∧ r.right - r.left ≤ v.l1 + v.wr := by
  simp only [rdsOk, Bool.and_eq_true, List.all_eq_true] at h
  have := h.2 r hr
  simp only [rdOk, inB, Bool.and_eq_true, decide_eq_true_eq] at this
  omega
theorem rdP_eq {v : Vial} (hv : (10 ≤ v.marks ∧ v.marks ≤ 200) ∧ (1 ≤ v.l0 ∧ v.l0 ≤ v.l1 ∧ v.l1 ≤ v.marks) ∧ (1 ≤ v.v0 ∧ v.v0 ≤ v.v1 ∧ v.v1 ≤ 500) ∧ (0 ≤ v.z0 ∧ v.z0 ≤ v.z1 ∧ v.z1 ≤ 2 * v.marks) ∧ 0 ≤ v.wr ∧ v.wr ≤ 8) (x : Rd) :
    (decide (x.left ≥ 0) && decide (x.right > x.left) && decide (x.right ≤ v.marks) && inB (IntKind.i64.wrap (x.right - x.left)) (v.l0 - v.wr) (v.l1 + v.wr)) = rdOk v x := by
  unfold rdOk
  by_cases h1 : 0 ≤ x.left ∧ x.left < x.right ∧ x.right ≤ v.marks
  · rw [wrap_in (by omega) (by omega)]
    have a1 : x.left ≥ 0 := h1.1
    have a2 : x.right > x.left := h1.2.1
    have a3 : inB x.left 0 v.marks = true := inB_iff.2 (by omega)
    have a4 : inB x.right (x.left + 1) v.marks = true := inB_iff.2 (by omega)
    simp [a1, a2, h1.2.2, a3, a4]
  · have h2 : (decide (x.left ≥ 0) && decide (x.right > x.left) && decide (x.right ≤ v.marks)) = false := by
      rw [← Bool.not_eq_true]
      simp only [Bool.and_eq_true, decide_eq_true_eq]
      omega
    have h3 : (inB x.left 0 v.marks && inB x.right (x.left + 1) v.marks) = false := by
      rw [← Bool.not_eq_true]
      simp only [Bool.and_eq_true, inB_iff]
      omega
    rw [h2, h3]; rfl
theorem lOpened_c (v : Vial) {l : List Rd} (full : Bool) (hv : v.ok = true) (hl : l.length ≤ 5864062014806) : PCalls Try.prog 47 [v.t, .sl (l.flatMap Rd.cs) l.length full] (if rdsOk v l = true then .tup [v.t, .sl ((l.map mid).flatMap Mk.als) l.length false, .int .i64 0] else .tup [v.t, .nilSl, .int .i64 31]) := by
  have hv' := Vial.ok_iff.1 hv
  refine pcalls_by Try.mixes spL2_ok (fn := Try.f47) Try.func47 rfl (by kernel_rfl) (by show 2 ≤ _; decide) ?_
  simp (decide := true) (maxSteps := 4000000) only [go_sem, Nat.reduceAdd, Nat.reduceSub, Nat.reduceMul, Nat.reduceDiv, Nat.reduceMod, Nat.reduceLT, Nat.reduceLeDiff, Nat.reduceEqDiff, Nat.reduceBEq, Nat.reduceBNe, Nat.reduceGT, Int.reduceAdd, Int.reduceSub, Int.reduceMul, Int.reduceNeg, Int.reduceLT, Int.reduceLE, Int.reduceEq, Int.reduceNe, Int.reduceBEq, Int.reduceBNe, Int.reduceToNat, Int.reduceGT, Int.reduceGE, ↓reduceIte, decide_true, decide_false, Try.f47, Vial.t, Vial.cs, hv]
  refine pwpC_loop (A := { k : Nat // k ≤ l.length }) (fun k => { env := [(24, .t (.int .i64 k.1)), (23, .t (.int .i64 l.length)), (22, .t (.sl (l.flatMap Rd.cs) l.length full)), (8, .t (.bool (inB l.length 1 8 && (l.take k.1).all (rdOk v)))), (5, .own (((l.take k.1).map midW).flatMap Mk.als) k.1 2), (4, .ptr 1 0), (2, .ptr 0 0)], heap := [.box (v.cs.map .t), .box (v.cs.map .t), .tok k.1 82] }) (fun k => l.length - k.1) ⟨0, by omega⟩ ?_ (fun k => by rfl) fun ⟨k, hk⟩ => ?_
  · simp (decide := true) (maxSteps := 4000000) only [go_sem, Nat.reduceAdd, Nat.reduceSub, Nat.reduceMul, Nat.reduceDiv, Nat.reduceMod, Nat.reduceLT, Nat.reduceLeDiff, Nat.reduceEqDiff, Nat.reduceBEq, Nat.reduceBNe, Nat.reduceGT, Int.reduceAdd, Int.reduceSub, Int.reduceMul, Int.reduceNeg, Int.reduceLT, Int.reduceLE, Int.reduceEq, Int.reduceNe, Int.reduceBEq, Int.reduceBNe, Int.reduceToNat, Int.reduceGT, Int.reduceGE, ↓reduceIte, decide_true, decide_false, Vial.cs]
  · by_cases hlt : (k : Int) < l.length
    · obtain ⟨x, hx⟩ := get_lt hlt
      have hd := flat_at Rd.cs (n := 3) (fun _ => rfl) hx
      have hc : (List.flatMap Mk.als (List.map midW (List.take k l))).length = k * 1 := by rw [flat_len Mk.als (n := 1) (fun _ => rfl)]; simp; omega
      have hr : (k + 1) * 16 ≤ 140737488355328 := by omega
      have hk1 : IntKind.i64.wrap (k + 1) = ((k + 1 : Nat) : Int) := by rw [wrap_in (by omega) (by omega)]; omega
      have ht : (List.take (k + 1) l).map midW = (List.take k l).map midW ++ [midW x] := by rw [take_snoc hx]; simp
      have e1 : IntKind.i64.wrap (v.l0 - v.wr) = v.l0 - v.wr := wrap_in (by omega) (by omega)
      have e2 : IntKind.i64.wrap (v.l1 + v.wr) = v.l1 + v.wr := wrap_in (by omega) (by omega)
      simp (decide := true) (maxSteps := 4000000) only [go_sem, Nat.reduceAdd, Nat.reduceSub, Nat.reduceMul, Nat.reduceDiv, Nat.reduceMod, Nat.reduceLT, Nat.reduceLeDiff, Nat.reduceEqDiff, Nat.reduceBEq, Nat.reduceBNe, Nat.reduceGT, Int.reduceAdd, Int.reduceSub, Int.reduceMul, Int.reduceNeg, Int.reduceLT, Int.reduceLE, Int.reduceEq, Int.reduceNe, Int.reduceBEq, Int.reduceBNe, Int.reduceToNat, Int.reduceGT, Int.reduceGE, ↓reduceIte, decide_true, decide_false, hlt, hd, Rd.cs, Vial.cs, hc, hr]
      refine ⟨⟨k + 1, by omega⟩, ?_⟩
      simp (decide := true) (maxSteps := 4000000) only [go_sem, Nat.reduceAdd, Nat.reduceSub, Nat.reduceMul, Nat.reduceDiv, Nat.reduceMod, Nat.reduceLT, Nat.reduceLeDiff, Nat.reduceEqDiff, Nat.reduceBEq, Nat.reduceBNe, Nat.reduceGT, Int.reduceAdd, Int.reduceSub, Int.reduceMul, Int.reduceNeg, Int.reduceLT, Int.reduceLE, Int.reduceEq, Int.reduceNe, Int.reduceBEq, Int.reduceBNe, Int.reduceToNat, Int.reduceGT, Int.reduceGE, ↓reduceIte, decide_true, decide_false, hk1, ht, List.flatMap_append, Mk.als, Mk.al, midW, e1, e2]
      refine ⟨?_, by omega⟩
      rw [take_all _ hx, ← Bool.and_assoc]
      cases (inB l.length 1 8 && (l.take k).all (rdOk v))
      · simp
      · simp only [Bool.true_and]; exact rdP_eq hv' x
    · have hkl : k = l.length := by omega
      subst hkl
      have hrd : rdsOk v l = (inB l.length 1 8 && (l.take l.length).all (rdOk v)) := by rw [List.take_length]; rfl
      cases hr : rdsOk v l with
      | true =>
        rw [hr] at hrd
        have h8 := rdsOk_len hr
        have h0 : ¬ l.length = 0 := by omega
        have hmm : (l.take l.length).map midW = l.map mid := by
          rw [List.take_length]
          refine List.map_congr_left fun r hr' => ?_
          have := rdsOk_mem hr hr'
          unfold midW mid
          rw [wrap_in (by omega) (by omega)]
        simp (decide := true) (maxSteps := 4000000) only [go_sem, Nat.reduceAdd, Nat.reduceSub, Nat.reduceMul, Nat.reduceDiv, Nat.reduceMod, Nat.reduceLT, Nat.reduceLeDiff, Nat.reduceEqDiff, Nat.reduceBEq, Nat.reduceBNe, Nat.reduceGT, Int.reduceAdd, Int.reduceSub, Int.reduceMul, Int.reduceNeg, Int.reduceLT, Int.reduceLE, Int.reduceEq, Int.reduceNe, Int.reduceBEq, Int.reduceBNe, Int.reduceToNat, Int.reduceGT, Int.reduceGE, ↓reduceIte, decide_true, decide_false, hlt, ← hrd, Vial.cs, h0, hmm]
      | false =>
        rw [hr] at hrd
        simp (decide := true) (maxSteps := 4000000) only [go_sem, Nat.reduceAdd, Nat.reduceSub, Nat.reduceMul, Nat.reduceDiv, Nat.reduceMod, Nat.reduceLT, Nat.reduceLeDiff, Nat.reduceEqDiff, Nat.reduceBEq, Nat.reduceBNe, Nat.reduceGT, Int.reduceAdd, Int.reduceSub, Int.reduceMul, Int.reduceNeg, Int.reduceLT, Int.reduceLE, Int.reduceEq, Int.reduceNe, Int.reduceBEq, Int.reduceBNe, Int.reduceToNat, Int.reduceGT, Int.reduceGE, ↓reduceIte, decide_true, decide_false, hlt, ← hrd, Vial.cs]
theorem lOpened_v (v : Vial) {l : List Rd} {s : TV} (hs : IsRow Rd.cs s l) (hv : v.ok = false) : PCalls Try.prog 47 [v.t, s] (.tup [(Vial.t ⟨0, 0, 0, 0, 0, 0, 0, 0⟩), .nilSl, .int .i64 30]) := by
  refine pcalls_by Try.mixes spL2_ok (fn := Try.f47) Try.func47 rfl (by kernel_rfl) (by show 2 ≤ _; decide) ?_
  rcases hs with ⟨rfl, rfl⟩ | ⟨full, rfl⟩ <;> simp (decide := true) (maxSteps := 4000000) only [go_sem, Nat.reduceAdd, Nat.reduceSub, Nat.reduceMul, Nat.reduceDiv, Nat.reduceMod, Nat.reduceLT, Nat.reduceLeDiff, Nat.reduceEqDiff, Nat.reduceBEq, Nat.reduceBNe, Nat.reduceGT, Int.reduceAdd, Int.reduceSub, Int.reduceMul, Int.reduceNeg, Int.reduceLT, Int.reduceLE, Int.reduceEq, Int.reduceNe, Int.reduceBEq, Int.reduceBNe, Int.reduceToNat, Int.reduceGT, Int.reduceGE, ↓reduceIte, decide_true, decide_false, Try.f47, Vial.t, Vial.cs, hv]
theorem lOpened_n (v : Vial) (hv : v.ok = true) : PCalls Try.prog 47 [v.t, .nilSl] (.tup [v.t, .nilSl, .int .i64 31]) := by
  refine pcalls_by Try.mixes spL2_ok (fn := Try.f47) Try.func47 rfl (by kernel_rfl) (by show 2 ≤ _; decide) ?_
  simp (decide := true) (maxSteps := 4000000) only [go_sem, Nat.reduceAdd, Nat.reduceSub, Nat.reduceMul, Nat.reduceDiv, Nat.reduceMod, Nat.reduceLT, Nat.reduceLeDiff, Nat.reduceEqDiff, Nat.reduceBEq, Nat.reduceBNe, Nat.reduceGT, Int.reduceAdd, Int.reduceSub, Int.reduceMul, Int.reduceNeg, Int.reduceLT, Int.reduceLE, Int.reduceEq, Int.reduceNe, Int.reduceBEq, Int.reduceBNe, Int.reduceToNat, Int.reduceGT, Int.reduceGE, ↓reduceIte, decide_true, decide_false, Try.f47, Vial.t, Vial.cs, hv]
  refine pwpC_loop (A := Unit) (fun k => { env := [(24, .t (.int .i64 0)), (23, .t (.int .i64 0)), (8, .t (.bool false)), (4, .ptr 1 0), (2, .ptr 0 0)], heap := [.box (v.cs.map .t), .box (v.cs.map .t)] }) (fun _ => 0) () ?_ (fun k => by rfl) fun _ => ?_
  · simp (decide := true) (maxSteps := 4000000) only [go_sem, Nat.reduceAdd, Nat.reduceSub, Nat.reduceMul, Nat.reduceDiv, Nat.reduceMod, Nat.reduceLT, Nat.reduceLeDiff, Nat.reduceEqDiff, Nat.reduceBEq, Nat.reduceBNe, Nat.reduceGT, Int.reduceAdd, Int.reduceSub, Int.reduceMul, Int.reduceNeg, Int.reduceLT, Int.reduceLE, Int.reduceEq, Int.reduceNe, Int.reduceBEq, Int.reduceBNe, Int.reduceToNat, Int.reduceGT, Int.reduceGE, ↓reduceIte, decide_true, decide_false, Vial.cs, inB]
  · simp (decide := true) (maxSteps := 4000000) only [go_sem, Nat.reduceAdd, Nat.reduceSub, Nat.reduceMul, Nat.reduceDiv, Nat.reduceMod, Nat.reduceLT, Nat.reduceLeDiff, Nat.reduceEqDiff, Nat.reduceBEq, Nat.reduceBNe, Nat.reduceGT, Int.reduceAdd, Int.reduceSub, Int.reduceMul, Int.reduceNeg, Int.reduceLT, Int.reduceLE, Int.reduceEq, Int.reduceNe, Int.reduceBEq, Int.reduceBNe, Int.reduceToNat, Int.reduceGT, Int.reduceGE, ↓reduceIte, decide_true, decide_false, Vial.cs]
def openedT (v : Vial) (l : List Rd) : TV := if v.ok = false then .tup [(Vial.t ⟨0, 0, 0, 0, 0, 0, 0, 0⟩), .nilSl, .int .i64 30] else if rdsOk v l = true then .tup [v.t, .sl ((l.map mid).flatMap Mk.als) l.length false, .int .i64 0] else .tup [v.t, .nilSl, .int .i64 31]
theorem lOpened_d (v : Vial) {l : List Rd} {s : TV} (hs : IsRow Rd.cs s l) (hl : l.length ≤ 5864062014806) : PCalls Try.prog 47 [v.t, s] (openedT v l) := by
  unfold openedT
  cases hv : v.ok with
  | false => exact lOpened_v v hs hv
  | true =>
    rw [if_neg (by simp)]
    rcases hs with ⟨rfl, rfl⟩ | ⟨full, rfl⟩
    · exact lOpened_n v hv
    · exact lOpened_c v full hv hl
noncomputable def glOpened : List TV → Option TV
  | [.agg [.int .i64 m, .int .i64 a, .int .i64 b, .int .i64 c, .int .i64 d, .int .i64 e, .int .i64 f, .int .i64 g], s] => match rowL unRds s with
    | some l => if l.length ≤ 5864062014806 then some (openedT ⟨m, a, b, c, d, e, f, g⟩ l) else none
    | none => none
  | _ => none
theorem glOpened_ok : ∀ xs r, glOpened xs = some r → PCalls Try.prog 47 xs r := by
  intro xs r h
  unfold glOpened at h
  split at h
  · split at h
    · rename_i l hl
      have hl := rowL_some (un := unRds) rfl (@unRds_some) hl
      split at h
      · rename_i hc; cases h; exact lOpened_d ⟨_, _, _, _, _, _, _, _⟩ hl hc
      · cases h
    · cases h
  · cases h
attribute [go_sem] glOpened
noncomputable def spL3 : Pm.Spec := spL2.one 47 glOpened
attribute [go_sem] spL3
theorem spL3_ok : SpecOk Try.prog spL3 := Spec.one_ok glOpened_ok spL2_ok
end Go.Proofs.Ytgofljmnlfnlnaa
