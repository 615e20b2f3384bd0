/- Trial and False of the program are those of the specification, for any sextant and trials. Nothing is asked of the input. -/
import Derived.Test.YtjmkccckohcfkaaC6
set_option linter.unusedSimpArgs false
set_option linter.unusedVariables false
namespace Go.Proofs.Ytjmkccckohcfkaa
open Go.RowKit Go.Pm Go.Oc Go.Oh Go.Os
set_option maxRecDepth 100000
set_option linter.unusedVariables false
set_option maxHeartbeats 4000000

theorem sextantTrials_law (xs : List TV) (h : argsOk Try.prog Try.f5.params.toList xs) : PCalls Try.prog 5 xs (.bool true) := by
  have h := (show argsOk Try.prog [26, 41] xs from h)
  obtain ⟨_, r, rfl, h1, h⟩ := argsOk_cons h
  obtain ⟨_, r, rfl, h2, h⟩ := argsOk_cons h
  cases argsOk_nil h
  obtain ⟨x, sT, sS, rfl, hT, hS, lT, lS⟩ := sxArg h1
  obtain ⟨l, hl, ll⟩ := trialsArg h2
  exact SextantTrials_c x hT hS lT lS hl ll
theorem sextantTrials_lifted (os : Os) (started : os.Started) (H : Type) (enc : TypeId × Value → H) :
    ReturnsInHanded {} Try.checked os 5 .any (Rows.sextantTrialsSpec.pre6 enc Try.prog Try.f5 Rows.sextantTrialsRow.domain false) (Rows.sextantTrialsSpec.post enc Try.prog Try.f5 false true false false) := by
  refine law_lifted (C := Try.checked) (by kernel_rfl) started (by kernel_rfl) Try.func5
    (ChangeSpec.witness6 (enc := enc) (C := Try.checked) false ⟨#[], #[.agg #[.int .i64 0, .slice none 0 0, .int .i64 0, .int .i64 0, .int .i64 0, .slice none 0 0], .slice none 0 0], []⟩ 8 (by kernel_rfl) (by kernel_rfl) (by kernel_rfl) (by kernel_rfl)) (by kernel_rfl) rfl rfl (by kernel_rfl) (by kernel_rfl) (by kernel_rfl) (fun ds h => ?_) sextantTrials_law
  match ds, h with
  | [d1, d2], _ => rfl
theorem sextantTrials_holds : Rows.SextantTrialsSaid :=
  OpenClaim.holds_of_wide 5 Try.f5 rfl rfl rfl rfl rfl rfl rfl ⟨rfl, rfl, rfl, rfl, rfl⟩ rfl rfl rfl rfl rfl (by kernel_rfl) Try.func5 (by kernel_rfl)
    (of_decide_eq_true (by kernel_rfl)) (by unfold Func.isWrapper; first | (rw [if_pos (by decide +kernel)]; kernel_rfl) | (rw [if_neg (by decide +kernel)]; exact ⟨rfl, rfl⟩))
    (fun os started H enc _ => sextantTrials_lifted os started H enc)
#print axioms sextantTrials_holds
end Go.Proofs.Ytjmkccckohcfkaa
