/- The arc of a sextant is cut on a dividing head: the arc that was truly cut lies between what is read, trials at all lines can all be so, for any head; numbers choose the lines, and the errors. Nothing is asked of the input. -/
import Derived.Test.YtadkjjnnnkfalaaC6
set_option linter.unusedSimpArgs false
set_option linter.unusedVariables false
namespace Go.Proofs.Ytadkjjnnnkfalaa
open Go.RowKit Go.Pm Go.Oc
set_option maxRecDepth 100000
set_option linter.unusedVariables false
set_option maxHeartbeats 4000000

theorem topLimb_law (xs : List TV) (h : argsOk Try.prog Try.f6.params.toList xs) : PCalls Try.prog 6 xs (.bool true) := by
  have h := (show argsOk Try.prog [106, 107, 39] xs from h)
  obtain ⟨_, r, rfl, h1, h⟩ := argsOk_cons h
  obtain ⟨_, r, rfl, h2, h⟩ := argsOk_cons h
  obtain ⟨_, r, rfl, h3, h⟩ := argsOk_cons h
  cases argsOk_nil h
  obtain ⟨t, cl, sc, rfl, hcl, lcl⟩ := xHead h1
  obtain ⟨n0, n1, rfl, i_n0, i_n1⟩ := xTwo h2
  obtain ⟨bits, hb, lb, ib⟩ := xInts h3
  exact TopLimb_c t hcl lcl n0 n1 hb (by omega) ib
theorem topLimb_lifted (os : Os) (started : os.Started) (H : Type) (enc : TypeId × Value → H) :
    ReturnsInHanded {} Try.checked os 6 .any (Rows.topLimbSpec.pre6 enc Try.prog Try.f6 Rows.topLimbRow.domain false) (Rows.topLimbSpec.post enc Try.prog Try.f6 false true false false) := by
  refine law_lifted (C := Try.checked) (by kernel_rfl) started (by kernel_rfl) Try.func6
    (ChangeSpec.witness6 (enc := enc) (C := Try.checked) false ⟨#[], #[.agg #[.int .i64 0, .slice none 0 0], .agg #[.int .i64 0, .int .i64 0], .slice none 0 0], []⟩ 8 (by kernel_rfl) (by kernel_rfl) (by kernel_rfl) (by kernel_rfl)) (by kernel_rfl) rfl rfl (by kernel_rfl) (by kernel_rfl) (by kernel_rfl) (fun ds h => ?_) topLimb_law
  match ds, h with
  | [d1, d2, d3], _ => rfl
theorem topLimb_holds : Rows.TopLimbSaid :=
  OpenClaim.holds_of_wide 6 Try.f6 rfl rfl rfl rfl rfl rfl rfl ⟨rfl, rfl, rfl, rfl, rfl⟩ rfl rfl rfl rfl rfl (by kernel_rfl) Try.func6 (by kernel_rfl)
    (of_decide_eq_true (by kernel_rfl)) (by unfold Func.isWrapper; first | (rw [if_pos (by decide +kernel)]; kernel_rfl) | (rw [if_neg (by decide +kernel)]; exact ⟨rfl, rfl⟩))
    (fun os started H enc _ => topLimb_lifted os started H enc)
#print axioms topLimb_holds
end Go.Proofs.Ytadkjjnnnkfalaa
