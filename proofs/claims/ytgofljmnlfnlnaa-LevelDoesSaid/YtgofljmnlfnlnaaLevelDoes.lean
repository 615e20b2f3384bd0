/- The bubble of each tilt in range lies within the marks, and no cheaper vial does for the range, unless its fault is greater, for any stock, prices and wish. Nothing is asked of the input. -/
import Derived.Test.YtgofljmnlfnlnaaC6
set_option linter.unusedSimpArgs false
set_option linter.unusedVariables false
namespace Go.Proofs.Ytgofljmnlfnlnaa
open Go.RowKit Go.Pm Go.Oc
set_option maxRecDepth 100000
set_option linter.unusedVariables false
set_option maxHeartbeats 4000000

theorem levelDoes_law (xs : List TV) (h : argsOk Try.prog Try.f14.params.toList xs) : PCalls Try.prog 14 xs (.bool true) := by
  have h := (show argsOk Try.prog [47, 37, 49, 69] xs from h)
  obtain ⟨_, r, rfl, h1, h⟩ := argsOk_cons h
  obtain ⟨_, r, rfl, h2, h⟩ := argsOk_cons h
  obtain ⟨_, r, rfl, h3, h⟩ := argsOk_cons h
  obtain ⟨_, r, rfl, h4, h⟩ := argsOk_cons h
  cases argsOk_nil h
  obtain ⟨st, hst, hstl⟩ := vialsArg h1
  obtain ⟨pr, hpr, hprl⟩ := intsArg h2
  obtain ⟨rg, fl, rfl, hrg, hfl⟩ := wishArg h3
  obtain ⟨n0, n1, n2, n3, n4, rfl, hn⟩ := fiveArg h4
  exact LevelDoes_c hst hpr rg fl n0 n1 n2 n3 n4 (by omega)
theorem levelDoes_lifted (os : Os) (started : os.Started) (H : Type) (enc : TypeId × Value → H) :
    ReturnsInHanded {} Try.checked os 14 .any (Rows.levelDoesSpec.pre6 enc Try.prog Try.f14 Rows.levelDoesRow.domain false) (Rows.levelDoesSpec.post enc Try.prog Try.f14 false true false false) := by
  refine law_lifted (C := Try.checked) (by kernel_rfl) started (by kernel_rfl) Try.func14
    (ChangeSpec.witness6 (enc := enc) (C := Try.checked) false ⟨#[], #[.slice none 0 0, .slice none 0 0, .agg #[.int .i64 0, .int .i64 0], .agg #[.int .i64 0, .int .i64 0, .int .i64 0, .int .i64 0, .int .i64 0]], []⟩ 8 (by kernel_rfl) (by kernel_rfl) (by kernel_rfl) (by kernel_rfl)) (by kernel_rfl) rfl rfl (by kernel_rfl) (by kernel_rfl) (by kernel_rfl) (fun ds h => ?_) levelDoes_law
  match ds, h with
  | [d1, d2, d3, d4], _ => rfl
theorem levelDoes_holds : Rows.LevelDoesSaid :=
  OpenClaim.holds_of_wide 14 Try.f14 rfl rfl rfl rfl rfl rfl rfl ⟨rfl, rfl, rfl, rfl, rfl⟩ rfl rfl rfl rfl rfl (by kernel_rfl) Try.func14 (by kernel_rfl)
    (of_decide_eq_true (by kernel_rfl)) (by unfold Func.isWrapper; first | (rw [if_pos (by decide +kernel)]; kernel_rfl) | (rw [if_neg (by decide +kernel)]; exact ⟨rfl, rfl⟩))
    (fun os started H enc _ => levelDoes_lifted os started H enc)
#print axioms levelDoes_holds
end Go.Proofs.Ytgofljmnlfnlnaa
