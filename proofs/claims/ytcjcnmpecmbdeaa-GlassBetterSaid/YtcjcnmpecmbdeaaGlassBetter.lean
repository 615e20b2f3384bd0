/- From a stock that is known better, with a blank more, or for a wider wish, the best objective is not worse, and not fewer can be made at once, for any stock and wish; numbers choose what is better. Nothing is asked of the input. -/
import Derived.Test.YtcjcnmpecmbdeaaC7
set_option linter.unusedSimpArgs false
set_option linter.unusedVariables false
namespace Go.Proofs.Ytcjcnmpecmbdeaa
open Go.RowKit Go.Pm Go.Oc
set_option maxRecDepth 100000
set_option linter.unusedVariables false
set_option maxHeartbeats 4000000

theorem glassBetter_law (xs : List TV) (h : argsOk Try.prog Try.f13.params.toList xs) : PCalls Try.prog 13 xs (.bool true) := by
  have h := (show argsOk Try.prog [25, 43, 29] xs from h)
  obtain ⟨_, r, rfl, h1, h⟩ := argsOk_cons h
  obtain ⟨_, r, rfl, h2, h⟩ := argsOk_cons h
  obtain ⟨_, r, rfl, h3, h⟩ := argsOk_cons h
  cases argsOk_nil h
  obtain ⟨B, T, sB, sT, rfl, hB, hT, lB, lT, iB, iT⟩ := stockArg h1
  obtain ⟨w, rfl, iw1, iw2, iw3⟩ := wantArg h2
  obtain ⟨bits, hb, lb, ib⟩ := intsArg h3
  exact GlassBetter_c hB hT (by omega) (by omega) w hb (by omega)
theorem glassBetter_lifted (os : Os) (started : os.Started) (H : Type) (enc : TypeId × Value → H) :
    ReturnsInHanded {} Try.checked os 13 .any (Rows.glassBetterSpec.pre6 enc Try.prog Try.f13 Rows.glassBetterRow.domain false) (Rows.glassBetterSpec.post enc Try.prog Try.f13 false true false false) := by
  refine law_lifted (C := Try.checked) (by kernel_rfl) started (by kernel_rfl) Try.func13
    (ChangeSpec.witness6 (enc := enc) (C := Try.checked) false ⟨#[], #[.agg #[.slice none 0 0, .slice none 0 0], .agg #[.int .i64 0, .int .i64 0, .int .i64 0], .slice none 0 0], []⟩ 8 (by kernel_rfl) (by kernel_rfl) (by kernel_rfl) (by kernel_rfl)) (by kernel_rfl) rfl rfl (by kernel_rfl) (by kernel_rfl) (by kernel_rfl) (fun ds h => ?_) glassBetter_law
  match ds, h with
  | [d1, d2, d3], _ => rfl
theorem glassBetter_holds : Rows.GlassBetterSaid :=
  OpenClaim.holds_of_wide 13 Try.f13 rfl rfl rfl rfl rfl rfl rfl ⟨rfl, rfl, rfl, rfl, rfl⟩ rfl rfl rfl rfl rfl (by kernel_rfl) Try.func13 (by kernel_rfl)
    (of_decide_eq_true (by kernel_rfl)) (by unfold Func.isWrapper; first | (rw [if_pos (by decide +kernel)]; kernel_rfl) | (rw [if_neg (by decide +kernel)]; exact ⟨rfl, rfl⟩))
    (fun os started H enc _ => glassBetter_lifted os started H enc)
#print axioms glassBetter_holds
end Go.Proofs.Ytcjcnmpecmbdeaa
