/- What is said of single stocks and surfaces holds. Nothing is asked of the input. -/
import Derived.Test.YtadkjjnnnkfalaaC6
set_option linter.unusedSimpArgs false
set_option linter.unusedVariables false
namespace Go.Proofs.Ytadkjjnnnkfalaa
open Go.RowKit Go.Pm Go.Oc
set_option maxRecDepth 100000
set_option linter.unusedVariables false
set_option maxHeartbeats 4000000

theorem glassKnown_law (xs : List TV) (h : argsOk Try.prog Try.f3.params.toList xs) : PCalls Try.prog 3 xs (.bool true) := by
  have h := (show argsOk Try.prog [] xs from h)
  cases argsOk_nil h
  exact Gl.GlassKnown_c
theorem glassKnown_lifted (os : Os) (started : os.Started) (H : Type) (enc : TypeId × Value → H) :
    ReturnsInHanded {} Try.checked os 3 .any (Rows.glassKnownSpec.pre6 enc Try.prog Try.f3 Rows.glassKnownRow.domain false) (Rows.glassKnownSpec.post enc Try.prog Try.f3 false true false false) := by
  refine law_lifted (C := Try.checked) (by kernel_rfl) started (by kernel_rfl) Try.func3
    (ChangeSpec.witness6 (enc := enc) (C := Try.checked) false ⟨#[], #[], []⟩ 8 (by kernel_rfl) (by kernel_rfl) (by kernel_rfl) (by kernel_rfl)) (by kernel_rfl) rfl rfl (by kernel_rfl) (by kernel_rfl) (by kernel_rfl) (fun ds h => ?_) glassKnown_law
  match ds, h with
  | [], _ => rfl
theorem glassKnown_holds : Rows.GlassKnownSaid :=
  OpenClaim.holds_of_wide 3 Try.f3 rfl rfl rfl rfl rfl rfl rfl ⟨rfl, rfl, rfl, rfl, rfl⟩ rfl rfl rfl rfl rfl (by kernel_rfl) Try.func3 (by kernel_rfl)
    (of_decide_eq_true (by kernel_rfl)) (by unfold Func.isWrapper; first | (rw [if_pos (by decide +kernel)]; kernel_rfl) | (rw [if_neg (by decide +kernel)]; exact ⟨rfl, rfl⟩))
    (fun os started H enc _ => glassKnown_lifted os started H enc)
#print axioms glassKnown_holds
end Go.Proofs.Ytadkjjnnnkfalaa
