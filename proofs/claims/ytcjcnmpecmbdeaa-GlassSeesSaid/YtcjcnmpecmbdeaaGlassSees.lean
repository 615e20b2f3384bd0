/- Check, Seen and Spans of the program are those of the specification, for any stock, objective and truth. Nothing is asked of the input. -/
import Derived.Test.YtcjcnmpecmbdeaaC7
set_option linter.unusedSimpArgs false
set_option linter.unusedVariables false
namespace Go.Proofs.Ytcjcnmpecmbdeaa
open Go.RowKit Go.Pm Go.Oc
set_option maxRecDepth 100000
set_option linter.unusedVariables false
set_option maxHeartbeats 4000000

theorem glassSees_law (xs : List TV) (h : argsOk Try.prog Try.f3.params.toList xs) : PCalls Try.prog 3 xs (.bool true) := by
  have h := (show argsOk Try.prog [25, 28, 31] xs from h)
  obtain ⟨_, r, rfl, h1, h⟩ := argsOk_cons h
  obtain ⟨_, r, rfl, h2, h⟩ := argsOk_cons h
  obtain ⟨_, r, rfl, h3, h⟩ := argsOk_cons h
  cases argsOk_nil h
  obtain ⟨B, T, sB, sT, rfl, hB, hT, lB, lT, iB, iT⟩ := stockArg h1
  obtain ⟨o, rfl, io⟩ := obArg h2
  obtain ⟨ix, co, cu, sI, sC, sK, rfl, hI, hC, hK, l1, l2, l3⟩ := truthArg h3
  exact GlassSees_c hB hT (by omega) (by omega) hI hC hK o
theorem glassSees_lifted (os : Os) (started : os.Started) (H : Type) (enc : TypeId × Value → H) :
    ReturnsInHanded {} Try.checked os 3 .any (Rows.glassSeesSpec.pre6 enc Try.prog Try.f3 Rows.glassSeesRow.domain false) (Rows.glassSeesSpec.post enc Try.prog Try.f3 false true false false) := by
  refine law_lifted (C := Try.checked) (by kernel_rfl) started (by kernel_rfl) Try.func3
    (ChangeSpec.witness6 (enc := enc) (C := Try.checked) false ⟨#[], #[.agg #[.slice none 0 0, .slice none 0 0], .agg #[.int .i64 0, .int .i64 0, .int .i64 0, .int .i64 0, .int .i64 0], .agg #[.slice none 0 0, .slice none 0 0, .slice none 0 0]], []⟩ 8 (by kernel_rfl) (by kernel_rfl) (by kernel_rfl) (by kernel_rfl)) (by kernel_rfl) rfl rfl (by kernel_rfl) (by kernel_rfl) (by kernel_rfl) (fun ds h => ?_) glassSees_law
  match ds, h with
  | [d1, d2, d3], _ => rfl
theorem glassSees_holds : Rows.GlassSeesSaid :=
  OpenClaim.holds_of_wide 3 Try.f3 rfl rfl rfl rfl rfl rfl rfl ⟨rfl, rfl, rfl, rfl, rfl⟩ rfl rfl rfl rfl rfl (by kernel_rfl) Try.func3 (by kernel_rfl)
    (of_decide_eq_true (by kernel_rfl)) (by unfold Func.isWrapper; first | (rw [if_pos (by decide +kernel)]; kernel_rfl) | (rw [if_neg (by decide +kernel)]; exact ⟨rfl, rfl⟩))
    (fun os started H enc _ => glassSees_lifted os started H enc)
#print axioms glassSees_holds
end Go.Proofs.Ytcjcnmpecmbdeaa
