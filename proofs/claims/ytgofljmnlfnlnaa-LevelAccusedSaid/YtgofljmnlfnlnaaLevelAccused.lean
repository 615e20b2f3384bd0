/- Readings that are named cannot all be so, without one of them the others can, and no fewer cannot, for any vial and readings; a number chooses other readings. Nothing is asked of the input. -/
import Derived.Test.YtgofljmnlfnlnaaC6
set_option linter.unusedSimpArgs false
set_option linter.unusedVariables false
namespace Go.Proofs.Ytgofljmnlfnlnaa
open Go.RowKit Go.Pm Go.Oc
set_option maxRecDepth 100000
set_option linter.unusedVariables false
set_option maxHeartbeats 4000000

theorem levelAccused_law (xs : List TV) (h : argsOk Try.prog Try.f11.params.toList xs) : PCalls Try.prog 11 xs (.bool true) := by
  have h := (show argsOk Try.prog [25, 26, 3] xs from h)
  obtain ⟨_, r, rfl, h1, h⟩ := argsOk_cons h
  obtain ⟨_, r, rfl, h2, h⟩ := argsOk_cons h
  obtain ⟨_, r, rfl, h3, h⟩ := argsOk_cons h
  cases argsOk_nil h
  obtain ⟨v, rfl⟩ := vialArg h1
  obtain ⟨l, hr, hrl, hri⟩ := rdsArg h2
  obtain ⟨set, rfl, hset⟩ := intArg h3
  exact LevelAccused_c v hr (by omega) set
theorem levelAccused_lifted (os : Os) (started : os.Started) (H : Type) (enc : TypeId × Value → H) :
    ReturnsInHanded {} Try.checked os 11 .any (Rows.levelAccusedSpec.pre6 enc Try.prog Try.f11 Rows.levelAccusedRow.domain false) (Rows.levelAccusedSpec.post enc Try.prog Try.f11 false true false false) := by
  refine law_lifted (C := Try.checked) (by kernel_rfl) started (by kernel_rfl) Try.func11
    (ChangeSpec.witness6 (enc := enc) (C := Try.checked) false ⟨#[], #[.agg #[.int .i64 0, .int .i64 0, .int .i64 0, .int .i64 0, .int .i64 0, .int .i64 0, .int .i64 0, .int .i64 0], .slice none 0 0, .int .i64 0], []⟩ 8 (by kernel_rfl) (by kernel_rfl) (by kernel_rfl) (by kernel_rfl)) (by kernel_rfl) rfl rfl (by kernel_rfl) (by kernel_rfl) (by kernel_rfl) (fun ds h => ?_) levelAccused_law
  match ds, h with
  | [d1, d2, d3], _ => rfl
theorem levelAccused_holds : Rows.LevelAccusedSaid :=
  OpenClaim.holds_of_wide 11 Try.f11 rfl rfl rfl rfl rfl rfl rfl ⟨rfl, rfl, rfl, rfl, rfl⟩ rfl rfl rfl rfl rfl (by kernel_rfl) Try.func11 (by kernel_rfl)
    (of_decide_eq_true (by kernel_rfl)) (by unfold Func.isWrapper; first | (rw [if_pos (by decide +kernel)]; kernel_rfl) | (rw [if_neg (by decide +kernel)]; exact ⟨rfl, rfl⟩))
    (fun os started H enc _ => levelAccused_lifted os started H enc)
#print axioms levelAccused_holds
end Go.Proofs.Ytgofljmnlfnlnaa
