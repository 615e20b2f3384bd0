/- No reading leaves a wider span than the fault, one does leave such a one, and the class is that of the fault, for any sextant and reading. Nothing is asked of the input. -/
import Derived.Test.YtjmkccckohcfkaaC6
set_option linter.unusedSimpArgs false
set_option linter.unusedVariables false
namespace Go.Proofs.Ytjmkccckohcfkaa
open Go.RowKit Go.Pm Go.Oc Go.Oh Go.Os
set_option maxRecDepth 100000
set_option linter.unusedVariables false
set_option maxHeartbeats 4000000

theorem sextantGraded_law (xs : List TV) (h : argsOk Try.prog Try.f12.params.toList xs) : PCalls Try.prog 12 xs (.bool true) := by
  have h := (show argsOk Try.prog [26, 28] xs from h)
  obtain ⟨_, r, rfl, h1, h⟩ := argsOk_cons h
  obtain ⟨_, r, rfl, h2, h⟩ := argsOk_cons h
  cases argsOk_nil h
  obtain ⟨x, sT, sS, rfl, hT, hS, lT, lS⟩ := sxArg h1
  obtain ⟨a, b, rfl⟩ := rdArg h2
  exact SextantGraded_c x hT hS lT lS a b
theorem sextantGraded_lifted (os : Os) (started : os.Started) (H : Type) (enc : TypeId × Value → H) :
    ReturnsInHanded {} Try.checked os 12 .any (Rows.sextantGradedSpec.pre6 enc Try.prog Try.f12 Rows.sextantGradedRow.domain false) (Rows.sextantGradedSpec.post enc Try.prog Try.f12 false true false false) := by
  refine law_lifted (C := Try.checked) (by kernel_rfl) started (by kernel_rfl) Try.func12
    (ChangeSpec.witness6 (enc := enc) (C := Try.checked) false ⟨#[], #[.agg #[.int .i64 0, .slice none 0 0, .int .i64 0, .int .i64 0, .int .i64 0, .slice none 0 0], .agg #[.int .i64 0, .int .i64 0]], []⟩ 8 (by kernel_rfl) (by kernel_rfl) (by kernel_rfl) (by kernel_rfl)) (by kernel_rfl) rfl rfl (by kernel_rfl) (by kernel_rfl) (by kernel_rfl) (fun ds h => ?_) sextantGraded_law
  match ds, h with
  | [d1, d2], _ => rfl
theorem sextantGraded_holds : Rows.SextantGradedSaid :=
  OpenClaim.holds_of_wide 12 Try.f12 rfl rfl rfl rfl rfl rfl rfl ⟨rfl, rfl, rfl, rfl, rfl⟩ rfl rfl rfl rfl rfl (by kernel_rfl) Try.func12 (by kernel_rfl)
    (of_decide_eq_true (by kernel_rfl)) (by unfold Func.isWrapper; first | (rw [if_pos (by decide +kernel)]; kernel_rfl) | (rw [if_neg (by decide +kernel)]; exact ⟨rfl, rfl⟩))
    (fun os started H enc _ => sextantGraded_lifted os started H enc)
#print axioms sextantGraded_holds
end Go.Proofs.Ytjmkccckohcfkaa
