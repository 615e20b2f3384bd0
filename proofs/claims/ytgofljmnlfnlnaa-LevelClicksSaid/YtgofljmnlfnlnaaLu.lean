/- Level: the walks of the program, 1. -/
import Derived.Test.YtgofljmnlfnlnaaBs
import Derived.Test.YtgofljmnlfnlnaaLp
namespace Go.Proofs.Ytgofljmnlfnlnaa
open Go.RowKit Go.Pm Go.Oc
set_option maxRecDepth 100000
set_option linter.unusedVariables false
set_option maxHeartbeats 1000000

def Mk.al (m : Mk) : TV := .ifc 98 (.agg [.int .i64 m.at', .fn (if m.tu then 74 else 73) [] []])
def Mk.als (m : Mk) : List TV := [Mk.al m]
def unAls : List TV → Option (List Mk)
  | [] => some []
  | .ifc 98 (.agg [.int .i64 a, .fn 73 [] []]) :: r => (unAls r).map (⟨a, false⟩ :: ·)
  | .ifc 98 (.agg [.int .i64 a, .fn 74 [] []]) :: r => (unAls r).map (⟨a, true⟩ :: ·)
  | _ => none
theorem unAls_eq : ∀ l : List Mk, unAls (l.flatMap Mk.als) = some l
  | [] => rfl
  | ⟨a, tu⟩ :: l => by cases tu <;> simp [Mk.als, Mk.al, unAls, unAls_eq l]
theorem unAls_some : ∀ {cs : List TV} {l : List Mk}, unAls cs = some l → cs = l.flatMap Mk.als := by
  intro cs
  induction cs using unAls.induct with
  | case1 => intro l h; simp [unAls] at h; subst h; rfl
  | case2 a r ih =>
    intro l h
    simp only [unAls, Option.map_eq_some_iff] at h
    obtain ⟨l', h1, rfl⟩ := h
    rw [ih h1]; rfl
  | case3 a r ih =>
    intro l h
    simp only [unAls, Option.map_eq_some_iff] at h
    obtain ⟨l', h1, rfl⟩ := h
    rw [ih h1]; rfl
  | case4 r h1 h2 h3 =>
    intro l h
    unfold unAls at h
    split at h
    · exact absurd rfl h1
    · exact absurd rfl (h2 _ _)
    · exact absurd rfl (h3 _ _)
    · cases h
attribute [go_sem] unAls_eq

theorem lWithin_c (n lo hi : Int) : PCalls Try.prog 48 [.int .i64 n, .int .i64 lo, .int .i64 hi] (.bool (inB n lo hi)) := by
  refine pcalls_by Try.mixes noSpec_ok (fn := Try.f48) Try.func48 rfl (by kernel_rfl) (by show 3 ≤ _; decide) ?_
  simp (decide := true) (maxSteps := 4000000) only [go_sem, Nat.reduceAdd, Nat.reduceSub, Nat.reduceMul, Nat.reduceDiv, Nat.reduceMod, Nat.reduceLT, Nat.reduceLeDiff, Nat.reduceEqDiff, Nat.reduceBEq, Nat.reduceBNe, Nat.reduceGT, Int.reduceAdd, Int.reduceSub, Int.reduceMul, Int.reduceNeg, Int.reduceLT, Int.reduceLE, Int.reduceEq, Int.reduceNe, Int.reduceBEq, Int.reduceBNe, Int.reduceToNat, Int.reduceGT, Int.reduceGE, ↓reduceIte, decide_true, decide_false, Try.f48, inB]
theorem lSpanned_c (s : Span) (lo hi : Int) : PCalls Try.prog 52 [s.t, .int .i64 lo, .int .i64 hi] (.bool (spannedB s lo hi)) := by
  refine pcalls_by Try.mixes noSpec_ok (fn := Try.f52) Try.func52 rfl (by kernel_rfl) (by show 3 ≤ _; decide) ?_
  simp (decide := true) (maxSteps := 4000000) only [go_sem, Nat.reduceAdd, Nat.reduceSub, Nat.reduceMul, Nat.reduceDiv, Nat.reduceMod, Nat.reduceLT, Nat.reduceLeDiff, Nat.reduceEqDiff, Nat.reduceBEq, Nat.reduceBNe, Nat.reduceGT, Int.reduceAdd, Int.reduceSub, Int.reduceMul, Int.reduceNeg, Int.reduceLT, Int.reduceLE, Int.reduceEq, Int.reduceNe, Int.reduceBEq, Int.reduceBNe, Int.reduceToNat, Int.reduceGT, Int.reduceGE, ↓reduceIte, decide_true, decide_false, Try.f52, Span.t, Span.cs, spannedB]
theorem lMarked1_c (m z : Int) : PCalls Try.prog 73 [.int .i64 m, .int .i64 z] (.int .i64 (IntKind.i64.wrap (m - z))) := by
  refine pcalls_by Try.mixes noSpec_ok (fn := Try.f73) Try.func73 rfl (by kernel_rfl) (by show 2 ≤ _; decide) ?_
  simp (decide := true) (maxSteps := 4000000) only [go_sem, Nat.reduceAdd, Nat.reduceSub, Nat.reduceMul, Nat.reduceDiv, Nat.reduceMod, Nat.reduceLT, Nat.reduceLeDiff, Nat.reduceEqDiff, Nat.reduceBEq, Nat.reduceBNe, Nat.reduceGT, Int.reduceAdd, Int.reduceSub, Int.reduceMul, Int.reduceNeg, Int.reduceLT, Int.reduceLE, Int.reduceEq, Int.reduceNe, Int.reduceBEq, Int.reduceBNe, Int.reduceToNat, Int.reduceGT, Int.reduceGE, ↓reduceIte, decide_true, decide_false, Try.f73]
theorem lMarked2_c (m z : Int) : PCalls Try.prog 74 [.int .i64 m, .int .i64 z] (.int .i64 (IntKind.i64.wrap (z - m))) := by
  refine pcalls_by Try.mixes noSpec_ok (fn := Try.f74) Try.func74 rfl (by kernel_rfl) (by show 2 ≤ _; decide) ?_
  simp (decide := true) (maxSteps := 4000000) only [go_sem, Nat.reduceAdd, Nat.reduceSub, Nat.reduceMul, Nat.reduceDiv, Nat.reduceMod, Nat.reduceLT, Nat.reduceLeDiff, Nat.reduceEqDiff, Nat.reduceBEq, Nat.reduceBNe, Nat.reduceGT, Int.reduceAdd, Int.reduceSub, Int.reduceMul, Int.reduceNeg, Int.reduceLT, Int.reduceLE, Int.reduceEq, Int.reduceNe, Int.reduceBEq, Int.reduceBNe, Int.reduceToNat, Int.reduceGT, Int.reduceGE, ↓reduceIte, decide_true, decide_false, Try.f74]
theorem lMarked_c (m : Int) (tu : Bool) : PCalls Try.prog 58 [.int .i64 m, .bool tu] (.agg [.int .i64 m, .fn (if tu then 74 else 73) [] []]) := by
  refine pcalls_by Try.mixes noSpec_ok (fn := Try.f58) Try.func58 rfl (by kernel_rfl) (by show 2 ≤ _; decide) ?_
  cases tu <;> simp (decide := true) (maxSteps := 4000000) only [go_sem, Nat.reduceAdd, Nat.reduceSub, Nat.reduceMul, Nat.reduceDiv, Nat.reduceMod, Nat.reduceLT, Nat.reduceLeDiff, Nat.reduceEqDiff, Nat.reduceBEq, Nat.reduceBNe, Nat.reduceGT, Int.reduceAdd, Int.reduceSub, Int.reduceMul, Int.reduceNeg, Int.reduceLT, Int.reduceLE, Int.reduceEq, Int.reduceNe, Int.reduceBEq, Int.reduceBNe, Int.reduceToNat, Int.reduceGT, Int.reduceGE, ↓reduceIte, decide_true, decide_false, Try.f58]
noncomputable def glWithin : List TV → Option TV
  | [.int .i64 n, .int .i64 a, .int .i64 b] => some (.bool (inB n a b))
  | _ => none
theorem glWithin_ok : ∀ xs r, glWithin xs = some r → PCalls Try.prog 48 xs r := by
  intro xs r h
  unfold glWithin at h
  split at h
  · cases h; exact lWithin_c _ _ _
  · cases h
attribute [go_sem] glWithin
noncomputable def glSpanned : List TV → Option TV
  | [.agg [.int .i64 x, .int .i64 y], .int .i64 a, .int .i64 b] => some (.bool (spannedB ⟨x, y⟩ a b))
  | _ => none
theorem glSpanned_ok : ∀ xs r, glSpanned xs = some r → PCalls Try.prog 52 xs r := by
  intro xs r h
  unfold glSpanned at h
  split at h
  · cases h; exact lSpanned_c ⟨_, _⟩ _ _
  · cases h
attribute [go_sem] glSpanned
noncomputable def glMarked1 : List TV → Option TV
  | [.int .i64 m, .int .i64 z] => some (.int .i64 (IntKind.i64.wrap (m - z)))
  | _ => none
theorem glMarked1_ok : ∀ xs r, glMarked1 xs = some r → PCalls Try.prog 73 xs r := by
  intro xs r h
  unfold glMarked1 at h
  split at h
  · cases h; exact lMarked1_c _ _
  · cases h
attribute [go_sem] glMarked1
noncomputable def glMarked2 : List TV → Option TV
  | [.int .i64 m, .int .i64 z] => some (.int .i64 (IntKind.i64.wrap (z - m)))
  | _ => none
theorem glMarked2_ok : ∀ xs r, glMarked2 xs = some r → PCalls Try.prog 74 xs r := by
  intro xs r h
  unfold glMarked2 at h
  split at h
  · cases h; exact lMarked2_c _ _
  · cases h
attribute [go_sem] glMarked2
noncomputable def glMarked : List TV → Option TV
  | [.int .i64 m, .bool tu] => some (.agg [.int .i64 m, .fn (if tu then 74 else 73) [] []])
  | _ => none
theorem glMarked_ok : ∀ xs r, glMarked xs = some r → PCalls Try.prog 58 xs r := by
  intro xs r h
  unfold glMarked at h
  split at h
  · cases h; exact lMarked_c _ _
  · cases h
attribute [go_sem] glMarked
noncomputable def spL1 : Pm.Spec := ((((noSpec.one 48 glWithin).one 52 glSpanned).one 73 glMarked1).one 74 glMarked2).one 58 glMarked
attribute [go_sem] spL1
theorem spL1_ok : SpecOk Try.prog spL1 := Spec.one_ok glMarked_ok (Spec.one_ok glMarked2_ok (Spec.one_ok glMarked1_ok (Spec.one_ok glSpanned_ok (Spec.one_ok glWithin_ok noSpec_ok))))
theorem lBounds_c (m : Mk) (z w : Int) (hm : inB m.at' 0 400 = true) (hz : 0 ≤ z ∧ z ≤ 400) (hw : 0 ≤ w ∧ w ≤ 8) : PCalls Try.prog 93 [.agg [.int .i64 m.at', .fn (if m.tu then 74 else 73) [] []], .int .i64 z, .int .i64 w] (.agg [.int .i64 (outM m z - w), .int .i64 (outM m z + w)]) := by
  refine pcalls_by Try.mixes spL1_ok (fn := Try.f93) Try.func93 rfl (by kernel_rfl) (by show 3 ≤ _; decide) ?_
  obtain ⟨a, tu⟩ := m
  have hm' := inB_iff.1 hm
  simp only at hm'
  cases tu <;> simp (decide := true) (maxSteps := 4000000) only [go_sem, Nat.reduceAdd, Nat.reduceSub, Nat.reduceMul, Nat.reduceDiv, Nat.reduceMod, Nat.reduceLT, Nat.reduceLeDiff, Nat.reduceEqDiff, Nat.reduceBEq, Nat.reduceBNe, Nat.reduceGT, Int.reduceAdd, Int.reduceSub, Int.reduceMul, Int.reduceNeg, Int.reduceLT, Int.reduceLE, Int.reduceEq, Int.reduceNe, Int.reduceBEq, Int.reduceBNe, Int.reduceToNat, Int.reduceGT, Int.reduceGE, ↓reduceIte, decide_true, decide_false, Try.f93, outM]
  all_goals simp (disch := omega) only [wrap_in, and_self, true_and, and_true]

theorem lCheck_c (v : Vial) : PCalls Try.prog 18 [v.t] (.int .i64 (if v.ok then 0 else 30)) := by
  refine pcalls_by Try.mixes spL1_ok (fn := Try.f18) Try.func18 rfl (by kernel_rfl) (by show 1 ≤ _; decide) ?_
  simp (decide := true) (maxSteps := 4000000) only [go_sem, Nat.reduceAdd, Nat.reduceSub, Nat.reduceMul, Nat.reduceDiv, Nat.reduceMod, Nat.reduceLT, Nat.reduceLeDiff, Nat.reduceEqDiff, Nat.reduceBEq, Nat.reduceBNe, Nat.reduceGT, Int.reduceAdd, Int.reduceSub, Int.reduceMul, Int.reduceNeg, Int.reduceLT, Int.reduceLE, Int.reduceEq, Int.reduceNe, Int.reduceBEq, Int.reduceBNe, Int.reduceToNat, Int.reduceGT, Int.reduceGE, ↓reduceIte, decide_true, decide_false, Try.f18, Vial.t, Vial.cs]
  cases h1 : inB v.marks 10 200 with
  | false => simp (decide := true) (maxSteps := 4000000) only [go_sem, Nat.reduceAdd, Nat.reduceSub, Nat.reduceMul, Nat.reduceDiv, Nat.reduceMod, Nat.reduceLT, Nat.reduceLeDiff, Nat.reduceEqDiff, Nat.reduceBEq, Nat.reduceBNe, Nat.reduceGT, Int.reduceAdd, Int.reduceSub, Int.reduceMul, Int.reduceNeg, Int.reduceLT, Int.reduceLE, Int.reduceEq, Int.reduceNe, Int.reduceBEq, Int.reduceBNe, Int.reduceToNat, Int.reduceGT, Int.reduceGE, ↓reduceIte, decide_true, decide_false, h1, Vial.ok]
  | true =>
    have h1' := inB_iff.1 h1
    have e : IntKind.i64.wrap (2 * v.marks) = 2 * v.marks := wrap_in (by omega) (by omega)
    cases h2 : spannedB ⟨v.l0, v.l1⟩ 1 v.marks <;> cases h3 : spannedB ⟨v.v0, v.v1⟩ 1 500 <;> cases h4 : spannedB ⟨v.z0, v.z1⟩ 0 (2 * v.marks) <;> cases h5 : inB v.wr 0 8 <;> simp (decide := true) (maxSteps := 4000000) only [go_sem, Nat.reduceAdd, Nat.reduceSub, Nat.reduceMul, Nat.reduceDiv, Nat.reduceMod, Nat.reduceLT, Nat.reduceLeDiff, Nat.reduceEqDiff, Nat.reduceBEq, Nat.reduceBNe, Nat.reduceGT, Int.reduceAdd, Int.reduceSub, Int.reduceMul, Int.reduceNeg, Int.reduceLT, Int.reduceLE, Int.reduceEq, Int.reduceNe, Int.reduceBEq, Int.reduceBNe, Int.reduceToNat, Int.reduceGT, Int.reduceGE, ↓reduceIte, decide_true, decide_false, h1, h2, h3, h4, h5, e, Vial.ok]
noncomputable def glCheck : List TV → Option TV
  | [.agg [.int .i64 m, .int .i64 a, .int .i64 b, .int .i64 c, .int .i64 d, .int .i64 e, .int .i64 f, .int .i64 g]] => some (.int .i64 (if Vial.ok ⟨m, a, b, c, d, e, f, g⟩ then 0 else 30))
  | _ => none
theorem glCheck_ok : ∀ xs r, glCheck xs = some r → PCalls Try.prog 18 xs r := by
  intro xs r h
  unfold glCheck at h
  split at h
  · cases h; exact lCheck_c ⟨_, _, _, _, _, _, _, _⟩
  · cases h
attribute [go_sem] glCheck
noncomputable def glBounds (xs : List TV) : Option TV := match xs with
  | [.agg [.int .i64 m, .fn 73 [] []], .int .i64 z, .int .i64 w] => if inB m 0 400 = true ∧ (0 ≤ z ∧ z ≤ 400) ∧ (0 ≤ w ∧ w ≤ 8) then some (.agg [.int .i64 (m - z - w), .int .i64 (m - z + w)]) else none
  | [.agg [.int .i64 m, .fn 74 [] []], .int .i64 z, .int .i64 w] => if inB m 0 400 = true ∧ (0 ≤ z ∧ z ≤ 400) ∧ (0 ≤ w ∧ w ≤ 8) then some (.agg [.int .i64 (z - m - w), .int .i64 (z - m + w)]) else none
  | _ => none
theorem glBounds_ok : ∀ xs r, glBounds xs = some r → PCalls Try.prog 93 xs r := by
  intro xs r h
  unfold glBounds at h
  split at h
  · split at h
    · rename_i hc; cases h; exact lBounds_c ⟨_, false⟩ _ _ hc.1 hc.2.1 hc.2.2
    · cases h
  · split at h
    · rename_i hc; cases h; exact lBounds_c ⟨_, true⟩ _ _ hc.1 hc.2.1 hc.2.2
    · cases h
  · cases h
attribute [go_sem] glBounds
noncomputable def spL2 : Pm.Spec := (spL1.one 18 glCheck).one 93 glBounds
attribute [go_sem] spL2
theorem spL2_ok : SpecOk Try.prog spL2 := Spec.one_ok glBounds_ok (Spec.one_ok glCheck_ok spL1_ok)
end Go.Proofs.Ytgofljmnlfnlnaa
