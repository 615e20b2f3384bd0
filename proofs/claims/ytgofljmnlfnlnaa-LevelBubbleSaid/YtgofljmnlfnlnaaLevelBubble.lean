/- In each truth in which all readings can be so, the tilt and the zero lie between what Tilt returns, for any vial, readings and truth. Nothing is asked of the input. -/
import Derived.Test.YtgofljmnlfnlnaaC5
set_option linter.unusedSimpArgs false
set_option linter.unusedVariables false
namespace Go.Proofs.Ytgofljmnlfnlnaa
open Go.RowKit Go.Pm Go.Oc
set_option maxRecDepth 100000
set_option linter.unusedVariables false
set_option maxHeartbeats 4000000

theorem levelBubble_law (xs : List TV) (h : argsOk Try.prog Try.f8.params.toList xs) : PCalls Try.prog 8 xs (.bool true) := by
  have h := (show argsOk Try.prog [25, 26, 28] xs from h)
  obtain ⟨_, r, rfl, h1, h⟩ := argsOk_cons h
  obtain ⟨_, r, rfl, h2, h⟩ := argsOk_cons h
  obtain ⟨_, r, rfl, h3, h⟩ := argsOk_cons h
  cases argsOk_nil h
  obtain ⟨v, rfl⟩ := vialArg h1
  obtain ⟨l, hr, hrl, hri⟩ := rdsArg h2
  obtain ⟨tv, tz, tt, rfl, hv1, hv2, hv3⟩ := truthArg h3
  exact LevelBubble_c v hr (by omega) tv tz tt
theorem levelBubble_lifted (os : Os) (started : os.Started) (H : Type) (enc : TypeId × Value → H) :
    ReturnsInHanded {} Try.checked os 8 .any (Rows.levelBubbleSpec.pre6 enc Try.prog Try.f8 Rows.levelBubbleRow.domain false) (Rows.levelBubbleSpec.post enc Try.prog Try.f8 false true false false) := by
  refine law_lifted (C := Try.checked) (by kernel_rfl) started (by kernel_rfl) Try.func8
    (ChangeSpec.witness6 (enc := enc) (C := Try.checked) false ⟨#[], #[.agg #[.int .i64 0, .int .i64 0, .int .i64 0, .int .i64 0, .int .i64 0, .int .i64 0, .int .i64 0, .int .i64 0], .slice none 0 0, .agg #[.int .i64 0, .int .i64 0, .int .i64 0]], []⟩ 8 (by kernel_rfl) (by kernel_rfl) (by kernel_rfl) (by kernel_rfl)) (by kernel_rfl) rfl rfl (by kernel_rfl) (by kernel_rfl) (by kernel_rfl) (fun ds h => ?_) levelBubble_law
  match ds, h with
  | [d1, d2, d3], _ => rfl
theorem levelBubble_holds : Rows.LevelBubbleSaid :=
  OpenClaim.holds_of_wide 8 Try.f8 rfl rfl rfl rfl rfl rfl rfl ⟨rfl, rfl, rfl, rfl, rfl⟩ rfl rfl rfl rfl rfl (by kernel_rfl) Try.func8 (by kernel_rfl)
    (of_decide_eq_true (by kernel_rfl)) (by unfold Func.isWrapper; first | (rw [if_pos (by decide +kernel)]; kernel_rfl) | (rw [if_neg (by decide +kernel)]; exact ⟨rfl, rfl⟩))
    (fun os started H enc _ => levelBubble_lifted os started H enc)
#print axioms levelBubble_holds
end Go.Proofs.Ytgofljmnlfnlnaa
