/- The three parts that are chosen err together by at most the bound at each angle, they cost what is said, and no other three that fit are cheaper, nor as cheap and come before them, for any stock and bound; numbers choose the errors, and the other three. Nothing is asked of the input. -/
import Derived.Test.YtjmkccckohcfkaaC6
set_option linter.unusedSimpArgs false
set_option linter.unusedVariables false
namespace Go.Proofs.Ytjmkccckohcfkaa
open Go.RowKit Go.Pm Go.Oc Go.Oh Go.Os
set_option maxRecDepth 100000
set_option linter.unusedVariables false
set_option maxHeartbeats 4000000

theorem sextantFits_law (xs : List TV) (h : argsOk Try.prog Try.f13.params.toList xs) : PCalls Try.prog 13 xs (.bool true) := by
  have h := (show argsOk Try.prog [50, 3, 45] xs from h)
  obtain ⟨_, r, rfl, h1, h⟩ := argsOk_cons h
  obtain ⟨_, r, rfl, h2, h⟩ := argsOk_cons h
  obtain ⟨_, r, rfl, h3, h⟩ := argsOk_cons h
  cases argsOk_nil h
  obtain ⟨l, hl, ll, dl⟩ := partsArg h1
  obtain ⟨n, rfl, i_n0, i_n1⟩ := intArg h2
  obtain ⟨bits, hb, lb, ib⟩ := intsArg h3
  exact SextantFits_c hl ll dl n hb (by omega) ib
theorem sextantFits_lifted (os : Os) (started : os.Started) (H : Type) (enc : TypeId × Value → H) :
    ReturnsInHanded {} Try.checked os 13 .any (Rows.sextantFitsSpec.pre6 enc Try.prog Try.f13 Rows.sextantFitsRow.domain false) (Rows.sextantFitsSpec.post enc Try.prog Try.f13 false true false false) := by
  refine law_lifted (C := Try.checked) (by kernel_rfl) started (by kernel_rfl) Try.func13
    (ChangeSpec.witness6 (enc := enc) (C := Try.checked) false ⟨#[], #[.slice none 0 0, .int .i64 0, .slice none 0 0], []⟩ 8 (by kernel_rfl) (by kernel_rfl) (by kernel_rfl) (by kernel_rfl)) (by kernel_rfl) rfl rfl (by kernel_rfl) (by kernel_rfl) (by kernel_rfl) (fun ds h => ?_) sextantFits_law
  match ds, h with
  | [d1, d2, d3], _ => rfl
theorem sextantFits_holds : Rows.SextantFitsSaid :=
  OpenClaim.holds_of_wide 13 Try.f13 rfl rfl rfl rfl rfl rfl rfl ⟨rfl, rfl, rfl, rfl, rfl⟩ rfl rfl rfl rfl rfl (by kernel_rfl) Try.func13 (by kernel_rfl)
    (of_decide_eq_true (by kernel_rfl)) (by unfold Func.isWrapper; first | (rw [if_pos (by decide +kernel)]; kernel_rfl) | (rw [if_neg (by decide +kernel)]; exact ⟨rfl, rfl⟩))
    (fun os started H enc _ => sextantFits_lifted os started H enc)
#print axioms sextantFits_holds
end Go.Proofs.Ytjmkccckohcfkaa
