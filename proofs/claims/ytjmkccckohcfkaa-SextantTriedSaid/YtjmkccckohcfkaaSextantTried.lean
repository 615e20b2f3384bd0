/- In each truth in which all trials were read so, each correction and the index error lie between what Trial returns, none of which is wider than before; the narrower sextant reads no wider, and its class is not worse, for any sextant and reading; numbers choose the truth, and the trials. Nothing is asked of the input. -/
import Derived.Test.YtjmkccckohcfkaaC6
set_option linter.unusedSimpArgs false
set_option linter.unusedVariables false
namespace Go.Proofs.Ytjmkccckohcfkaa
open Go.RowKit Go.Pm Go.Oc Go.Oh Go.Os
set_option maxRecDepth 100000
set_option linter.unusedVariables false
set_option maxHeartbeats 4000000

theorem sextantTried_law (xs : List TV) (h : argsOk Try.prog Try.f10.params.toList xs) : PCalls Try.prog 10 xs (.bool true) := by
  have h := (show argsOk Try.prog [26, 28, 45] xs from h)
  obtain ⟨_, r, rfl, h1, h⟩ := argsOk_cons h
  obtain ⟨_, r, rfl, h2, h⟩ := argsOk_cons h
  obtain ⟨_, r, rfl, h3, h⟩ := argsOk_cons h
  cases argsOk_nil h
  obtain ⟨x, sT, sS, rfl, hT, hS, lT, lS⟩ := sxArg h1
  obtain ⟨a, b, rfl⟩ := rdArg h2
  obtain ⟨bits, hb, lb, ib⟩ := intsArg h3
  exact SextantTried_c x hT hS lT lS a b hb (by omega) ib
theorem sextantTried_lifted (os : Os) (started : os.Started) (H : Type) (enc : TypeId × Value → H) :
    ReturnsInHanded {} Try.checked os 10 .any (Rows.sextantTriedSpec.pre6 enc Try.prog Try.f10 Rows.sextantTriedRow.domain false) (Rows.sextantTriedSpec.post enc Try.prog Try.f10 false true false false) := by
  refine law_lifted (C := Try.checked) (by kernel_rfl) started (by kernel_rfl) Try.func10
    (ChangeSpec.witness6 (enc := enc) (C := Try.checked) false ⟨#[], #[.agg #[.int .i64 0, .slice none 0 0, .int .i64 0, .int .i64 0, .int .i64 0, .slice none 0 0], .agg #[.int .i64 0, .int .i64 0], .slice none 0 0], []⟩ 8 (by kernel_rfl) (by kernel_rfl) (by kernel_rfl) (by kernel_rfl)) (by kernel_rfl) rfl rfl (by kernel_rfl) (by kernel_rfl) (by kernel_rfl) (fun ds h => ?_) sextantTried_law
  match ds, h with
  | [d1, d2, d3], _ => rfl
theorem sextantTried_holds : Rows.SextantTriedSaid :=
  OpenClaim.holds_of_wide 10 Try.f10 rfl rfl rfl rfl rfl rfl rfl ⟨rfl, rfl, rfl, rfl, rfl⟩ rfl rfl rfl rfl rfl (by kernel_rfl) Try.func10 (by kernel_rfl)
    (of_decide_eq_true (by kernel_rfl)) (by unfold Func.isWrapper; first | (rw [if_pos (by decide +kernel)]; kernel_rfl) | (rw [if_neg (by decide +kernel)]; exact ⟨rfl, rfl⟩))
    (fun os started H enc _ => sextantTried_lifted os started H enc)
#print axioms sextantTried_holds
end Go.Proofs.Ytjmkccckohcfkaa
