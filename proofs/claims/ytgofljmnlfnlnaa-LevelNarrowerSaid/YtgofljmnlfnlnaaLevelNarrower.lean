/- With a reading more the tilt is not less narrow, and the width is at most the gain of its kind, for any vial, readings and one more. Nothing is asked of the input. -/
import Derived.Test.YtgofljmnlfnlnaaC6
set_option linter.unusedSimpArgs false
set_option linter.unusedVariables false
namespace Go.Proofs.Ytgofljmnlfnlnaa
open Go.RowKit Go.Pm Go.Oc
set_option maxRecDepth 100000
set_option linter.unusedVariables false
set_option maxHeartbeats 4000000

theorem levelNarrower_law (xs : List TV) (h : argsOk Try.prog Try.f12.params.toList xs) : PCalls Try.prog 12 xs (.bool true) := by
  have h := (show argsOk Try.prog [25, 26, 57] xs from h)
  obtain ⟨_, r, rfl, h1, h⟩ := argsOk_cons h
  obtain ⟨_, r, rfl, h2, h⟩ := argsOk_cons h
  obtain ⟨_, r, rfl, h3, h⟩ := argsOk_cons h
  cases argsOk_nil h
  obtain ⟨v, rfl⟩ := vialArg h1
  obtain ⟨l, hr, hrl, hri⟩ := rdsArg h2
  obtain ⟨x, rfl, hx1, hx2⟩ := rdArg h3
  exact LevelNarrower_c v hr (by omega) x
theorem levelNarrower_lifted (os : Os) (started : os.Started) (H : Type) (enc : TypeId × Value → H) :
    ReturnsInHanded {} Try.checked os 12 .any (Rows.levelNarrowerSpec.pre6 enc Try.prog Try.f12 Rows.levelNarrowerRow.domain false) (Rows.levelNarrowerSpec.post enc Try.prog Try.f12 false true false false) := by
  refine law_lifted (C := Try.checked) (by kernel_rfl) started (by kernel_rfl) Try.func12
    (ChangeSpec.witness6 (enc := enc) (C := Try.checked) false ⟨#[], #[.agg #[.int .i64 0, .int .i64 0, .int .i64 0, .int .i64 0, .int .i64 0, .int .i64 0, .int .i64 0, .int .i64 0], .slice none 0 0, .agg #[.int .i64 0, .int .i64 0, .bool false]], []⟩ 8 (by kernel_rfl) (by kernel_rfl) (by kernel_rfl) (by kernel_rfl)) (by kernel_rfl) rfl rfl (by kernel_rfl) (by kernel_rfl) (by kernel_rfl) (fun ds h => ?_) levelNarrower_law
  match ds, h with
  | [d1, d2, d3], _ => rfl
theorem levelNarrower_holds : Rows.LevelNarrowerSaid :=
  OpenClaim.holds_of_wide 12 Try.f12 rfl rfl rfl rfl rfl rfl rfl ⟨rfl, rfl, rfl, rfl, rfl⟩ rfl rfl rfl rfl rfl (by kernel_rfl) Try.func12 (by kernel_rfl)
    (of_decide_eq_true (by kernel_rfl)) (by unfold Func.isWrapper; first | (rw [if_pos (by decide +kernel)]; kernel_rfl) | (rw [if_neg (by decide +kernel)]; exact ⟨rfl, rfl⟩))
    (fun os started H enc _ => levelNarrower_lifted os started H enc)
#print axioms levelNarrower_holds
end Go.Proofs.Ytgofljmnlfnlnaa
