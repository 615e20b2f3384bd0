/- What is said of single sextants and stocks holds. Nothing is asked of the input. -/
import Derived.Test.YtjmkccckohcfkaaC6
set_option linter.unusedSimpArgs false
set_option linter.unusedVariables false
namespace Go.Proofs.Ytjmkccckohcfkaa
open Go.RowKit Go.Pm Go.Oc Go.Oh Go.Os
set_option maxRecDepth 100000
set_option linter.unusedVariables false
set_option maxHeartbeats 4000000

theorem sextantKnown_law (xs : List TV) (h : argsOk Try.prog Try.f14.params.toList xs) : PCalls Try.prog 14 xs (.bool true) := by
  have h := (show argsOk Try.prog [] xs from h)
  cases argsOk_nil h
  exact SextantKnown_c
theorem sextantKnown_lifted (os : Os) (started : os.Started) (H : Type) (enc : TypeId × Value → H) :
    ReturnsInHanded {} Try.checked os 14 .any (Rows.sextantKnownSpec.pre6 enc Try.prog Try.f14 Rows.sextantKnownRow.domain false) (Rows.sextantKnownSpec.post enc Try.prog Try.f14 false true false false) := by
  refine law_lifted (C := Try.checked) (by kernel_rfl) started (by kernel_rfl) Try.func14
    (ChangeSpec.witness6 (enc := enc) (C := Try.checked) false ⟨#[], #[], []⟩ 8 (by kernel_rfl) (by kernel_rfl) (by kernel_rfl) (by kernel_rfl)) (by kernel_rfl) rfl rfl (by kernel_rfl) (by kernel_rfl) (by kernel_rfl) (fun ds h => ?_) sextantKnown_law
  match ds, h with
  | [], _ => rfl
theorem sextantKnown_holds : Rows.SextantKnownSaid :=
  OpenClaim.holds_of_wide 14 Try.f14 rfl rfl rfl rfl rfl rfl rfl ⟨rfl, rfl, rfl, rfl, rfl⟩ rfl rfl rfl rfl rfl (by kernel_rfl) Try.func14 (by kernel_rfl)
    (of_decide_eq_true (by kernel_rfl)) (by unfold Func.isWrapper; first | (rw [if_pos (by decide +kernel)]; kernel_rfl) | (rw [if_neg (by decide +kernel)]; exact ⟨rfl, rfl⟩))
    (fun os started H enc _ => sextantKnown_lifted os started H enc)
#print axioms sextantKnown_holds
end Go.Proofs.Ytjmkccckohcfkaa
