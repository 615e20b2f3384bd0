/- By a direct reading and a turned one the zero differs from half the sum of their middles by at most Wrong, for any vial and readings. Nothing is asked of the input. -/
import Derived.Test.YtgofljmnlfnlnaaC5
set_option linter.unusedSimpArgs false
set_option linter.unusedVariables false
namespace Go.Proofs.Ytgofljmnlfnlnaa
open Go.RowKit Go.Pm Go.Oc
set_option maxRecDepth 100000
set_option linter.unusedVariables false
set_option maxHeartbeats 4000000

theorem levelTurned_law (xs : List TV) (h : argsOk Try.prog Try.f10.params.toList xs) : PCalls Try.prog 10 xs (.bool true) := by
  have h := (show argsOk Try.prog [25, 26, 55] xs from h)
  obtain ⟨_, r, rfl, h1, h⟩ := argsOk_cons h
  obtain ⟨_, r, rfl, h2, h⟩ := argsOk_cons h
  obtain ⟨_, r, rfl, h3, h⟩ := argsOk_cons h
  cases argsOk_nil h
  obtain ⟨v, rfl⟩ := vialArg h1
  obtain ⟨l, hr, hrl, hri⟩ := rdsArg h2
  obtain ⟨n0, n1, rfl, hn0, hn1⟩ := pairArg h3
  exact LevelTurned_c v hr (by omega) n0 n1
theorem levelTurned_lifted (os : Os) (started : os.Started) (H : Type) (enc : TypeId × Value → H) :
    ReturnsInHanded {} Try.checked os 10 .any (Rows.levelTurnedSpec.pre6 enc Try.prog Try.f10 Rows.levelTurnedRow.domain false) (Rows.levelTurnedSpec.post enc Try.prog Try.f10 false true false false) := by
  refine law_lifted (C := Try.checked) (by kernel_rfl) started (by kernel_rfl) Try.func10
    (ChangeSpec.witness6 (enc := enc) (C := Try.checked) false ⟨#[], #[.agg #[.int .i64 0, .int .i64 0, .int .i64 0, .int .i64 0, .int .i64 0, .int .i64 0, .int .i64 0, .int .i64 0], .slice none 0 0, .agg #[.int .i64 0, .int .i64 0]], []⟩ 8 (by kernel_rfl) (by kernel_rfl) (by kernel_rfl) (by kernel_rfl)) (by kernel_rfl) rfl rfl (by kernel_rfl) (by kernel_rfl) (by kernel_rfl) (fun ds h => ?_) levelTurned_law
  match ds, h with
  | [d1, d2, d3], _ => rfl
theorem levelTurned_holds : Rows.LevelTurnedSaid :=
  OpenClaim.holds_of_wide 10 Try.f10 rfl rfl rfl rfl rfl rfl rfl ⟨rfl, rfl, rfl, rfl, rfl⟩ rfl rfl rfl rfl rfl (by kernel_rfl) Try.func10 (by kernel_rfl)
    (of_decide_eq_true (by kernel_rfl)) (by unfold Func.isWrapper; first | (rw [if_pos (by decide +kernel)]; kernel_rfl) | (rw [if_neg (by decide +kernel)]; exact ⟨rfl, rfl⟩))
    (fun os started H enc _ => levelTurned_lifted os started H enc)
#print axioms levelTurned_holds
end Go.Proofs.Ytgofljmnlfnlnaa
