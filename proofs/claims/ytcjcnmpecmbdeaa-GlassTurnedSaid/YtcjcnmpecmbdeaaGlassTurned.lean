/- An objective that is turned round has the same powers and colours with the other sign; one with the same tool thrice has none, for any stock and objective; numbers choose the truth. Nothing is asked of the input. -/
import Derived.Test.YtcjcnmpecmbdeaaC7
set_option linter.unusedSimpArgs false
set_option linter.unusedVariables false
namespace Go.Proofs.Ytcjcnmpecmbdeaa
open Go.RowKit Go.Pm Go.Oc
set_option maxRecDepth 100000
set_option linter.unusedVariables false
set_option maxHeartbeats 4000000

theorem glassTurned_law (xs : List TV) (h : argsOk Try.prog Try.f11.params.toList xs) : PCalls Try.prog 11 xs (.bool true) := by
  have h := (show argsOk Try.prog [25, 28, 29] xs from h)
  obtain ⟨_, r, rfl, h1, h⟩ := argsOk_cons h
  obtain ⟨_, r, rfl, h2, h⟩ := argsOk_cons h
  obtain ⟨_, r, rfl, h3, h⟩ := argsOk_cons h
  cases argsOk_nil h
  obtain ⟨B, T, sB, sT, rfl, hB, hT, lB, lT, iB, iT⟩ := stockArg h1
  obtain ⟨o, rfl, io⟩ := obArg h2
  obtain ⟨bits, hb, lb, ib⟩ := intsArg h3
  exact GlassTurned_c hB hT (by omega) (by omega) o hb (by omega)
theorem glassTurned_lifted (os : Os) (started : os.Started) (H : Type) (enc : TypeId × Value → H) :
    ReturnsInHanded {} Try.checked os 11 .any (Rows.glassTurnedSpec.pre6 enc Try.prog Try.f11 Rows.glassTurnedRow.domain false) (Rows.glassTurnedSpec.post enc Try.prog Try.f11 false true false false) := by
  refine law_lifted (C := Try.checked) (by kernel_rfl) started (by kernel_rfl) Try.func11
    (ChangeSpec.witness6 (enc := enc) (C := Try.checked) false ⟨#[], #[.agg #[.slice none 0 0, .slice none 0 0], .agg #[.int .i64 0, .int .i64 0, .int .i64 0, .int .i64 0, .int .i64 0], .slice none 0 0], []⟩ 8 (by kernel_rfl) (by kernel_rfl) (by kernel_rfl) (by kernel_rfl)) (by kernel_rfl) rfl rfl (by kernel_rfl) (by kernel_rfl) (by kernel_rfl) (fun ds h => ?_) glassTurned_law
  match ds, h with
  | [d1, d2, d3], _ => rfl
theorem glassTurned_holds : Rows.GlassTurnedSaid :=
  OpenClaim.holds_of_wide 11 Try.f11 rfl rfl rfl rfl rfl rfl rfl ⟨rfl, rfl, rfl, rfl, rfl⟩ rfl rfl rfl rfl rfl (by kernel_rfl) Try.func11 (by kernel_rfl)
    (of_decide_eq_true (by kernel_rfl)) (by unfold Func.isWrapper; first | (rw [if_pos (by decide +kernel)]; kernel_rfl) | (rw [if_neg (by decide +kernel)]; exact ⟨rfl, rfl⟩))
    (fun os started H enc _ => glassTurned_lifted os started H enc)
#print axioms glassTurned_holds
end Go.Proofs.Ytcjcnmpecmbdeaa
