/- Level: the walks of the program, 5: tilts. -/
import Derived.Test.YtgofljmnlfnlnaaLz
import Derived.Test.YtgofljmnlfnlnaaQmZb
namespace Go.Proofs.Ytgofljmnlfnlnaa
open Go.RowKit Go.Pm Go.Oc
set_option maxRecDepth 100000
set_option linter.unusedVariables false
set_option maxHeartbeats 1000000

theorem lEnds1_c (a b : Int) (full : Bool) : PCalls Try.prog 71 [.int .i64 a, .sl [.int .i64 b] 1 full] (.tup [.int .i64 (min a b), .int .i64 (max a b)]) := lEnds_c a [b] full (by simp)
noncomputable def glEnds : List TV → Option TV
  | [.int .i64 a, .sl [.int .i64 b] 1 full] => some (.tup [.int .i64 (min a b), .int .i64 (max a b)])
  | _ => none
theorem glEnds_ok : ∀ xs r, glEnds xs = some r → PCalls Try.prog 71 xs r := by
  intro xs r h
  unfold glEnds at h
  split at h
  · cases h; exact lEnds1_c _ _ _
  · cases h
attribute [go_sem] glEnds
noncomputable def glZeros : List TV → Option TV
  | [.agg [.int .i64 m, .int .i64 a, .int .i64 b, .int .i64 c, .int .i64 d, .int .i64 e, .int .i64 f, .int .i64 g], .sl cs n full] => some (.fn 77 [] [.cptr (Vial.cs ⟨m, a, b, c, d, e, f, g⟩), .cptr [.sl cs n full]])
  | _ => none
theorem glZeros_ok : ∀ xs r, glZeros xs = some r → PCalls Try.prog 70 xs r := by
  intro xs r h
  unfold glZeros at h
  split at h
  · cases h; exact lZeros_c ⟨_, _, _, _, _, _, _, _⟩ _ ⟨_, _, _, rfl⟩
  · cases h
attribute [go_sem] glZeros
noncomputable def spL4 : Pm.Spec := (spL3.one 71 glEnds).one 70 glZeros
attribute [go_sem] spL4
theorem spL4_ok : SpecOk Try.prog spL4 := Spec.one_ok glZeros_ok (Spec.one_ok glEnds_ok spL3_ok)

/-- What is known of the tilt behind so many zeros that can be. -/
def tk (v : Vial) (l : List Mk) (i : Nat) : TZ := tiltsOf v ((zerosOf v l (allZ v)).take i)
theorem tk_succ {v : Vial} {l : List Mk} {i : Nat} {y : Int × Span} (h : (zerosOf v l (allZ v))[i]? = some y) : tk v l (i + 1) = tiltStep v (tk v l i) y := by
  unfold tk tiltsOf; rw [take_snoc h, List.foldl_append]; rfl
theorem zerosOf_mem {v : Vial} {l : List Mk} {y : Int × Span} (h : y ∈ zerosOf v l (allZ v)) : y.2 = withinS v.wr l y.1 ∧ y.2.lo ≤ y.2.hi ∧ v.z0 ≤ y.1 ∧ y.1 ≤ v.z1 := by
  unfold zerosOf allZ range at h
  simp only [List.mem_filterMap, List.mem_map, List.mem_range] at h
  obtain ⟨z, ⟨k, hk, rfl⟩, h⟩ := h
  split at h
  · rename_i hle; cases h; exact ⟨rfl, hle, by simp only; omega, by simp only; omega⟩
  · cases h
theorem lTilts_c (v : Vial) (l : List Mk) (full : Bool) (h1 : 1 ≤ l.length) (hv : v.ok = true) (hm : mksOk l = true) (hl : l.length ≤ 100) :
    PCalls Try.prog 54 [v.t, .sl (l.flatMap Mk.als) l.length full] (tilts v l).t := by
  have hv' := Vial.ok_iff.1 hv
  refine pcalls_by Try.mixes spL4_ok (fn := Try.f54) Try.func54 rfl (by kernel_rfl) (by show 2 ≤ _; decide) ?_
  simp (decide := true) (maxSteps := 4000000) only [go_sem, Nat.reduceAdd, Nat.reduceSub, Nat.reduceMul, Nat.reduceDiv, Nat.reduceMod, Nat.reduceLT, Nat.reduceLeDiff, Nat.reduceEqDiff, Nat.reduceBEq, Nat.reduceBNe, Nat.reduceGT, Int.reduceAdd, Int.reduceSub, Int.reduceMul, Int.reduceNeg, Int.reduceLT, Int.reduceLE, Int.reduceEq, Int.reduceNe, Int.reduceBEq, Int.reduceBNe, Int.reduceToNat, Int.reduceGT, Int.reduceGE, ↓reduceIte, decide_true, decide_false, Try.f54, Vial.t, Vial.cs]
  refine pwpC_range rfl 77 [] [.cptr v.cs, .cptr [.sl (l.flatMap Mk.als) l.length full]] (zs v l) [(15, .t (.fn 77 [] [.cptr v.cs, .cptr [.sl (l.flatMap Mk.als) l.length full]])), (2, .ptr 0 0), (4, .ptr 1 0), (5, .ptr 2 0), (6, .ptr 3 0)]
    (fun i => [.box (v.cs.map .t), .box ((tk v l i).tilt.cs.map .t), .box ((tk v l i).zero.cs.map .t), .box [.t (.bool (tk v l i).is)]]) 4 ?_ (by rfl) (by rfl) ?_ (lZeros1_c v l full h1 hv hm hl) ?_ (fun i => by simp) (fun i => rfl) (fun i x hx => ?_) ?_
  · simp (decide := true) (maxSteps := 4000000) only [go_sem, Nat.reduceAdd, Nat.reduceSub, Nat.reduceMul, Nat.reduceDiv, Nat.reduceMod, Nat.reduceLT, Nat.reduceLeDiff, Nat.reduceEqDiff, Nat.reduceBEq, Nat.reduceBNe, Nat.reduceGT, Int.reduceAdd, Int.reduceSub, Int.reduceMul, Int.reduceNeg, Int.reduceLT, Int.reduceLE, Int.reduceEq, Int.reduceNe, Int.reduceBEq, Int.reduceBNe, Int.reduceToNat, Int.reduceGT, Int.reduceGE, ↓reduceIte, decide_true, decide_false, Vial.cs, Span.cs, tk, tiltsOf]
  · simp (decide := true) (maxSteps := 4000000) only [go_sem, Nat.reduceAdd, Nat.reduceSub, Nat.reduceMul, Nat.reduceDiv, Nat.reduceMod, Nat.reduceLT, Nat.reduceLeDiff, Nat.reduceEqDiff, Nat.reduceBEq, Nat.reduceBNe, Nat.reduceGT, Int.reduceAdd, Int.reduceSub, Int.reduceMul, Int.reduceNeg, Int.reduceLT, Int.reduceLE, Int.reduceEq, Int.reduceNe, Int.reduceBEq, Int.reduceBNe, Int.reduceToNat, Int.reduceGT, Int.reduceGE, ↓reduceIte, decide_true, decide_false, Vial.cs]
  · intro x hx
    unfold zs at hx
    obtain ⟨y, _, rfl⟩ := List.mem_map.1 hx
    rfl
  · unfold zs at hx
    simp only [List.getElem?_map, Option.map_eq_some_iff] at hx
    obtain ⟨y, hy, rfl⟩ := hx
    obtain ⟨hy1, hy2, hy3, hy4⟩ := zerosOf_mem (List.mem_of_getElem? hy)
    have hb := withinS_bound (w := v.wr) (z := y.1) (by omega) (by omega) (l := l) (s := ⟨-10000, 10000⟩) hm (by simp)
    have hwi : withinS v.wr l y.1 = l.foldl (inS v.wr y.1) ⟨-10000, 10000⟩ := rfl
    rw [← hwi, ← hy1] at hb
    have p1 := mulB (a := y.2.lo) (b := v.v0) (by omega) (by omega)
    have p2 := mulB (a := y.2.lo) (b := v.v1) (by omega) (by omega)
    have p3 := mulB (a := y.2.hi) (b := v.v0) (by omega) (by omega)
    have p4 := mulB (a := y.2.hi) (b := v.v1) (by omega) (by omega)
    have w1 : IntKind.i64.wrap (v.v0 * y.2.lo) = y.2.lo * v.v0 := by rw [Int.mul_comm]; exact wrap_in (by omega) (by omega)
    have w2 : IntKind.i64.wrap (v.v1 * y.2.lo) = y.2.lo * v.v1 := by rw [Int.mul_comm]; exact wrap_in (by omega) (by omega)
    have w3 : IntKind.i64.wrap (v.v0 * y.2.hi) = y.2.hi * v.v0 := by rw [Int.mul_comm]; exact wrap_in (by omega) (by omega)
    have w4 : IntKind.i64.wrap (v.v1 * y.2.hi) = y.2.hi * v.v1 := by rw [Int.mul_comm]; exact wrap_in (by omega) (by omega)
    have hlm := least_most hv hy2
    unfold leastP mostP at hlm
    have hs := tk_succ hy
    cases his : (tk v l i).is
    · simp (decide := true) (maxSteps := 4000000) only [go_sem, Nat.reduceAdd, Nat.reduceSub, Nat.reduceMul, Nat.reduceDiv, Nat.reduceMod, Nat.reduceLT, Nat.reduceLeDiff, Nat.reduceEqDiff, Nat.reduceBEq, Nat.reduceBNe, Nat.reduceGT, Int.reduceAdd, Int.reduceSub, Int.reduceMul, Int.reduceNeg, Int.reduceLT, Int.reduceLE, Int.reduceEq, Int.reduceNe, Int.reduceBEq, Int.reduceBNe, Int.reduceToNat, Int.reduceGT, Int.reduceGE, ↓reduceIte, decide_true, decide_false, Vial.cs, Span.cs, Span.t, w1, w2, w3, w4, his, hs, tiltStep, leastP, mostP]
      omega
    · simp (decide := true) (maxSteps := 4000000) only [go_sem, Nat.reduceAdd, Nat.reduceSub, Nat.reduceMul, Nat.reduceDiv, Nat.reduceMod, Nat.reduceLT, Nat.reduceLeDiff, Nat.reduceEqDiff, Nat.reduceBEq, Nat.reduceBNe, Nat.reduceGT, Int.reduceAdd, Int.reduceSub, Int.reduceMul, Int.reduceNeg, Int.reduceLT, Int.reduceLE, Int.reduceEq, Int.reduceNe, Int.reduceBEq, Int.reduceBNe, Int.reduceToNat, Int.reduceGT, Int.reduceGE, ↓reduceIte, decide_true, decide_false, Vial.cs, Span.cs, Span.t, w1, w2, w3, w4, his, hs, tiltStep, leastP, mostP]
  · have he : tk v l (zs v l).length = tilts v l := by unfold tk zs tilts; rw [List.length_map, List.take_length]
    simp (decide := true) (maxSteps := 4000000) only [go_sem, Nat.reduceAdd, Nat.reduceSub, Nat.reduceMul, Nat.reduceDiv, Nat.reduceMod, Nat.reduceLT, Nat.reduceLeDiff, Nat.reduceEqDiff, Nat.reduceBEq, Nat.reduceBNe, Nat.reduceGT, Int.reduceAdd, Int.reduceSub, Int.reduceMul, Int.reduceNeg, Int.reduceLT, Int.reduceLE, Int.reduceEq, Int.reduceNe, Int.reduceBEq, Int.reduceBNe, Int.reduceToNat, Int.reduceGT, Int.reduceGE, ↓reduceIte, decide_true, decide_false, he, Vial.cs, Span.cs, TZ.t, Span.t]
noncomputable def glTilts : List TV → Option TV
  | [.agg [.int .i64 m, .int .i64 a, .int .i64 b, .int .i64 c, .int .i64 d, .int .i64 e, .int .i64 f, .int .i64 g], s] => match rowL unAls s with
    | some l => if 1 ≤ l.length ∧ Vial.ok ⟨m, a, b, c, d, e, f, g⟩ = true ∧ mksOk l = true ∧ l.length ≤ 100 then some ((tilts ⟨m, a, b, c, d, e, f, g⟩ l).t) else none
    | none => none
  | _ => none
theorem glTilts_ok : ∀ xs r, glTilts xs = some r → PCalls Try.prog 54 xs r := by
  intro xs r h
  unfold glTilts at h
  split at h
  · split at h
    · rename_i l hl
      have hl := rowL_some (un := unAls) rfl (@unAls_some) hl
      split at h
      · rename_i hc; cases h; exact (by obtain ⟨h0, h1, h2, h3⟩ := hc; obtain ⟨full, rfl⟩ := hl.ne h0; exact lTilts_c ⟨_, _, _, _, _, _, _, _⟩ _ _ h0 h1 h2 h3)
      · cases h
    · cases h
  · cases h
attribute [go_sem] glTilts
noncomputable def spL5 : Pm.Spec := spL4.one 54 glTilts
attribute [go_sem] spL5
theorem spL5_ok : SpecOk Try.prog spL5 := Spec.one_ok glTilts_ok spL4_ok
end Go.Proofs.Ytgofljmnlfnlnaa
