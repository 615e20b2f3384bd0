/- Assemble of the program is that of the specification, for any stock and bound. Nothing is asked of the input. -/
import Derived.Test.YtjmkccckohcfkaaC6
set_option linter.unusedSimpArgs false
set_option linter.unusedVariables false
namespace Go.Proofs.Ytjmkccckohcfkaa
open Go.RowKit Go.Pm Go.Oc Go.Oh Go.Os
set_option maxRecDepth 100000
set_option linter.unusedVariables false
set_option maxHeartbeats 4000000

theorem sextantParts_law (xs : List TV) (h : argsOk Try.prog Try.f6.params.toList xs) : PCalls Try.prog 6 xs (.bool true) := by
  have h := (show argsOk Try.prog [50, 3] xs from h)
  obtain ⟨_, r, rfl, h1, h⟩ := argsOk_cons h
  obtain ⟨_, r, rfl, h2, h⟩ := argsOk_cons h
  cases argsOk_nil h
  obtain ⟨l, hl, ll, dl⟩ := partsArg h1
  obtain ⟨n, rfl, i_n0, i_n1⟩ := intArg h2
  exact SextantParts_c hl ll dl n
theorem sextantParts_lifted (os : Os) (started : os.Started) (H : Type) (enc : TypeId × Value → H) :
    ReturnsInHanded {} Try.checked os 6 .any (Rows.sextantPartsSpec.pre6 enc Try.prog Try.f6 Rows.sextantPartsRow.domain false) (Rows.sextantPartsSpec.post enc Try.prog Try.f6 false true false false) := by
  refine law_lifted (C := Try.checked) (by kernel_rfl) started (by kernel_rfl) Try.func6
    (ChangeSpec.witness6 (enc := enc) (C := Try.checked) false ⟨#[], #[.slice none 0 0, .int .i64 0], []⟩ 8 (by kernel_rfl) (by kernel_rfl) (by kernel_rfl) (by kernel_rfl)) (by kernel_rfl) rfl rfl (by kernel_rfl) (by kernel_rfl) (by kernel_rfl) (fun ds h => ?_) sextantParts_law
  match ds, h with
  | [d1, d2], _ => rfl
theorem sextantParts_holds : Rows.SextantPartsSaid :=
  OpenClaim.holds_of_wide 6 Try.f6 rfl rfl rfl rfl rfl rfl rfl ⟨rfl, rfl, rfl, rfl, rfl⟩ rfl rfl rfl rfl rfl (by kernel_rfl) Try.func6 (by kernel_rfl)
    (of_decide_eq_true (by kernel_rfl)) (by unfold Func.isWrapper; first | (rw [if_pos (by decide +kernel)]; kernel_rfl) | (rw [if_neg (by decide +kernel)]; exact ⟨rfl, rfl⟩))
    (fun os started H enc _ => sextantParts_lifted os started H enc)
#print axioms sextantParts_holds
end Go.Proofs.Ytjmkccckohcfkaa
