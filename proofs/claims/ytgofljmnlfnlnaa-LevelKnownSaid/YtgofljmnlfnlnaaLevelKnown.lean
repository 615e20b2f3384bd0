/- What is said of single vials, readings, screws and stocks holds. Nothing is asked of the input. -/
import Derived.Test.YtgofljmnlfnlnaaC5
set_option linter.unusedSimpArgs false
set_option linter.unusedVariables false
namespace Go.Proofs.Ytgofljmnlfnlnaa
open Go.RowKit Go.Pm Go.Oc
set_option maxRecDepth 100000
set_option linter.unusedVariables false
set_option maxHeartbeats 4000000

theorem levelKnown_law (xs : List TV) (h : argsOk Try.prog Try.f15.params.toList xs) : PCalls Try.prog 15 xs (.bool true) := by
  have h := (show argsOk Try.prog [] xs from h)
  cases argsOk_nil h
  exact LevelKnown_c
theorem levelKnown_lifted (os : Os) (started : os.Started) (H : Type) (enc : TypeId × Value → H) :
    ReturnsInHanded {} Try.checked os 15 .any (Rows.levelKnownSpec.pre6 enc Try.prog Try.f15 Rows.levelKnownRow.domain false) (Rows.levelKnownSpec.post enc Try.prog Try.f15 false true false false) := by
  refine law_lifted (C := Try.checked) (by kernel_rfl) started (by kernel_rfl) Try.func15
    (ChangeSpec.witness6 (enc := enc) (C := Try.checked) false ⟨#[], #[], []⟩ 8 (by kernel_rfl) (by kernel_rfl) (by kernel_rfl) (by kernel_rfl)) (by kernel_rfl) rfl rfl (by kernel_rfl) (by kernel_rfl) (by kernel_rfl) (fun ds h => ?_) levelKnown_law
  match ds, h with
  | [], _ => rfl
theorem levelKnown_holds : Rows.LevelKnownSaid :=
  OpenClaim.holds_of_wide 15 Try.f15 rfl rfl rfl rfl rfl rfl rfl ⟨rfl, rfl, rfl, rfl, rfl⟩ rfl rfl rfl rfl rfl (by kernel_rfl) Try.func15 (by kernel_rfl)
    (of_decide_eq_true (by kernel_rfl)) (by unfold Func.isWrapper; first | (rw [if_pos (by decide +kernel)]; kernel_rfl) | (rw [if_neg (by decide +kernel)]; exact ⟨rfl, rfl⟩))
    (fun os started H enc _ => levelKnown_lifted os started H enc)
#print axioms levelKnown_holds
end Go.Proofs.Ytgofljmnlfnlnaa
