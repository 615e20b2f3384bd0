/- The clicks of the program are those of the specification, for any tilt, worth and bound. Nothing is asked of the input. -/
import Derived.Test.YtgofljmnlfnlnaaC5
set_option linter.unusedSimpArgs false
set_option linter.unusedVariables false
namespace Go.Proofs.Ytgofljmnlfnlnaa
open Go.RowKit Go.Pm Go.Oc
set_option maxRecDepth 100000
set_option linter.unusedVariables false
set_option maxHeartbeats 4000000

theorem levelClicks_law (xs : List TV) (h : argsOk Try.prog Try.f6.params.toList xs) : PCalls Try.prog 6 xs (.bool true) := by
  have h := (show argsOk Try.prog [23, 3, 3] xs from h)
  obtain ⟨_, r, rfl, h1, h⟩ := argsOk_cons h
  obtain ⟨_, r, rfl, h2, h⟩ := argsOk_cons h
  obtain ⟨_, r, rfl, h3, h⟩ := argsOk_cons h
  cases argsOk_nil h
  obtain ⟨t, rfl, hs1, hs2⟩ := spanArg h1
  obtain ⟨w, rfl, hw⟩ := intArg h2
  obtain ⟨b, rfl, hb⟩ := intArg h3
  exact LevelClicks_c t w b
theorem levelClicks_lifted (os : Os) (started : os.Started) (H : Type) (enc : TypeId × Value → H) :
    ReturnsInHanded {} Try.checked os 6 .any (Rows.levelClicksSpec.pre6 enc Try.prog Try.f6 Rows.levelClicksRow.domain false) (Rows.levelClicksSpec.post enc Try.prog Try.f6 false true false false) := by
  refine law_lifted (C := Try.checked) (by kernel_rfl) started (by kernel_rfl) Try.func6
    (ChangeSpec.witness6 (enc := enc) (C := Try.checked) false ⟨#[], #[.agg #[.int .i64 0, .int .i64 0], .int .i64 0, .int .i64 0], []⟩ 8 (by kernel_rfl) (by kernel_rfl) (by kernel_rfl) (by kernel_rfl)) (by kernel_rfl) rfl rfl (by kernel_rfl) (by kernel_rfl) (by kernel_rfl) (fun ds h => ?_) levelClicks_law
  match ds, h with
  | [d1, d2, d3], _ => rfl
theorem levelClicks_holds : Rows.LevelClicksSaid :=
  OpenClaim.holds_of_wide 6 Try.f6 rfl rfl rfl rfl rfl rfl rfl ⟨rfl, rfl, rfl, rfl, rfl⟩ rfl rfl rfl rfl rfl (by kernel_rfl) Try.func6 (by kernel_rfl)
    (of_decide_eq_true (by kernel_rfl)) (by unfold Func.isWrapper; first | (rw [if_pos (by decide +kernel)]; kernel_rfl) | (rw [if_neg (by decide +kernel)]; exact ⟨rfl, rfl⟩))
    (fun os started H enc _ => levelClicks_lifted os started H enc)
#print axioms levelClicks_holds
end Go.Proofs.Ytgofljmnlfnlnaa
