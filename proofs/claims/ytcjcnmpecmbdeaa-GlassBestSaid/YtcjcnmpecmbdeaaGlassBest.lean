/- The best objective meets power and colour, its worst colour is reached, and no other good one has a lesser worst colour, nor as little for a lesser price, nor comes before it then; if there is none, none is good, for any stock, wish and other objective. Nothing is asked of the input. -/
import Derived.Test.YtcjcnmpecmbdeaaC7
set_option linter.unusedSimpArgs false
set_option linter.unusedVariables false
namespace Go.Proofs.Ytcjcnmpecmbdeaa
open Go.RowKit Go.Pm Go.Oc
set_option maxRecDepth 100000
set_option linter.unusedVariables false
set_option maxHeartbeats 4000000

theorem glassBest_law (xs : List TV) (h : argsOk Try.prog Try.f10.params.toList xs) : PCalls Try.prog 10 xs (.bool true) := by
  have h := (show argsOk Try.prog [25, 43, 28] xs from h)
  obtain ⟨_, r, rfl, h1, h⟩ := argsOk_cons h
  obtain ⟨_, r, rfl, h2, h⟩ := argsOk_cons h
  obtain ⟨_, r, rfl, h3, h⟩ := argsOk_cons h
  cases argsOk_nil h
  obtain ⟨B, T, sB, sT, rfl, hB, hT, lB, lT, iB, iT⟩ := stockArg h1
  obtain ⟨w, rfl, iw1, iw2, iw3⟩ := wantArg h2
  obtain ⟨o, rfl, io⟩ := obArg h3
  exact GlassBest_c hB hT (by omega) (by omega) w o
theorem glassBest_lifted (os : Os) (started : os.Started) (H : Type) (enc : TypeId × Value → H) :
    ReturnsInHanded {} Try.checked os 10 .any (Rows.glassBestSpec.pre6 enc Try.prog Try.f10 Rows.glassBestRow.domain false) (Rows.glassBestSpec.post enc Try.prog Try.f10 false true false false) := by
  refine law_lifted (C := Try.checked) (by kernel_rfl) started (by kernel_rfl) Try.func10
    (ChangeSpec.witness6 (enc := enc) (C := Try.checked) false ⟨#[], #[.agg #[.slice none 0 0, .slice none 0 0], .agg #[.int .i64 0, .int .i64 0, .int .i64 0], .agg #[.int .i64 0, .int .i64 0, .int .i64 0, .int .i64 0, .int .i64 0]], []⟩ 8 (by kernel_rfl) (by kernel_rfl) (by kernel_rfl) (by kernel_rfl)) (by kernel_rfl) rfl rfl (by kernel_rfl) (by kernel_rfl) (by kernel_rfl) (fun ds h => ?_) glassBest_law
  match ds, h with
  | [d1, d2, d3], _ => rfl
theorem glassBest_holds : Rows.GlassBestSaid :=
  OpenClaim.holds_of_wide 10 Try.f10 rfl rfl rfl rfl rfl rfl rfl ⟨rfl, rfl, rfl, rfl, rfl⟩ rfl rfl rfl rfl rfl (by kernel_rfl) Try.func10 (by kernel_rfl)
    (of_decide_eq_true (by kernel_rfl)) (by unfold Func.isWrapper; first | (rw [if_pos (by decide +kernel)]; kernel_rfl) | (rw [if_neg (by decide +kernel)]; exact ⟨rfl, rfl⟩))
    (fun os started H enc _ => glassBest_lifted os started H enc)
#print axioms glassBest_holds
end Go.Proofs.Ytcjcnmpecmbdeaa
