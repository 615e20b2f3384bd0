/- Most returns as many good objectives at once as there can be, for any stock and wish. Nothing is asked of the input. -/
import Derived.Test.YtcjcnmpecmbdeaaC7
set_option linter.unusedSimpArgs false
set_option linter.unusedVariables false
namespace Go.Proofs.Ytcjcnmpecmbdeaa
open Go.RowKit Go.Pm Go.Oc
set_option maxRecDepth 100000
set_option linter.unusedVariables false
set_option maxHeartbeats 4000000

theorem glassMakes_law (xs : List TV) (h : argsOk Try.prog Try.f5.params.toList xs) : PCalls Try.prog 5 xs (.bool true) := by
  have h := (show argsOk Try.prog [25, 43] xs from h)
  obtain ⟨_, r, rfl, h1, h⟩ := argsOk_cons h
  obtain ⟨_, r, rfl, h2, h⟩ := argsOk_cons h
  cases argsOk_nil h
  obtain ⟨B, T, sB, sT, rfl, hB, hT, lB, lT, iB, iT⟩ := stockArg h1
  obtain ⟨w, rfl, iw1, iw2, iw3⟩ := wantArg h2
  exact GlassMakes_c hB hT (by omega) (by omega) w
theorem glassMakes_lifted (os : Os) (started : os.Started) (H : Type) (enc : TypeId × Value → H) :
    ReturnsInHanded {} Try.checked os 5 .any (Rows.glassMakesSpec.pre6 enc Try.prog Try.f5 Rows.glassMakesRow.domain false) (Rows.glassMakesSpec.post enc Try.prog Try.f5 false true false false) := by
  refine law_lifted (C := Try.checked) (by kernel_rfl) started (by kernel_rfl) Try.func5
    (ChangeSpec.witness6 (enc := enc) (C := Try.checked) false ⟨#[], #[.agg #[.slice none 0 0, .slice none 0 0], .agg #[.int .i64 0, .int .i64 0, .int .i64 0]], []⟩ 8 (by kernel_rfl) (by kernel_rfl) (by kernel_rfl) (by kernel_rfl)) (by kernel_rfl) rfl rfl (by kernel_rfl) (by kernel_rfl) (by kernel_rfl) (fun ds h => ?_) glassMakes_law
  match ds, h with
  | [d1, d2], _ => rfl
theorem glassMakes_holds : Rows.GlassMakesSaid :=
  OpenClaim.holds_of_wide 5 Try.f5 rfl rfl rfl rfl rfl rfl rfl ⟨rfl, rfl, rfl, rfl, rfl⟩ rfl rfl rfl rfl rfl (by kernel_rfl) Try.func5 (by kernel_rfl)
    (of_decide_eq_true (by kernel_rfl)) (by unfold Func.isWrapper; first | (rw [if_pos (by decide +kernel)]; kernel_rfl) | (rw [if_neg (by decide +kernel)]; exact ⟨rfl, rfl⟩))
    (fun os started H enc _ => glassMakes_lifted os started H enc)
#print axioms glassMakes_holds
end Go.Proofs.Ytcjcnmpecmbdeaa
