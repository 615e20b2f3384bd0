/- After the clicks the tilt is within the bound, and no fewer clicks do, for any tilt, worth and bound. Nothing is asked of the input. -/
import Derived.Test.YtgofljmnlfnlnaaC5
set_option linter.unusedSimpArgs false
set_option linter.unusedVariables false
namespace Go.Proofs.Ytgofljmnlfnlnaa
open Go.RowKit Go.Pm Go.Oc
set_option maxRecDepth 100000
set_option linter.unusedVariables false
set_option maxHeartbeats 4000000

theorem levelSet_law (xs : List TV) (h : argsOk Try.prog Try.f13.params.toList xs) : PCalls Try.prog 13 xs (.bool true) := by
  have h := (show argsOk Try.prog [23, 3, 3, 55] xs from h)
  obtain ⟨_, r, rfl, h1, h⟩ := argsOk_cons h
  obtain ⟨_, r, rfl, h2, h⟩ := argsOk_cons h
  obtain ⟨_, r, rfl, h3, h⟩ := argsOk_cons h
  obtain ⟨_, r, rfl, h4, h⟩ := argsOk_cons h
  cases argsOk_nil h
  obtain ⟨t, rfl, hs1, hs2⟩ := spanArg h1
  obtain ⟨w, rfl, hw⟩ := intArg h2
  obtain ⟨b, rfl, hb⟩ := intArg h3
  obtain ⟨n0, n1, rfl, hn0, hn1⟩ := pairArg h4
  exact LevelSet_c t w b n0 n1 hs1 hs2
theorem levelSet_lifted (os : Os) (started : os.Started) (H : Type) (enc : TypeId × Value → H) :
    ReturnsInHanded {} Try.checked os 13 .any (Rows.levelSetSpec.pre6 enc Try.prog Try.f13 Rows.levelSetRow.domain false) (Rows.levelSetSpec.post enc Try.prog Try.f13 false true false false) := by
  refine law_lifted (C := Try.checked) (by kernel_rfl) started (by kernel_rfl) Try.func13
    (ChangeSpec.witness6 (enc := enc) (C := Try.checked) false ⟨#[], #[.agg #[.int .i64 0, .int .i64 0], .int .i64 0, .int .i64 0, .agg #[.int .i64 0, .int .i64 0]], []⟩ 8 (by kernel_rfl) (by kernel_rfl) (by kernel_rfl) (by kernel_rfl)) (by kernel_rfl) rfl rfl (by kernel_rfl) (by kernel_rfl) (by kernel_rfl) (fun ds h => ?_) levelSet_law
  match ds, h with
  | [d1, d2, d3, d4], _ => rfl
theorem levelSet_holds : Rows.LevelSetSaid :=
  OpenClaim.holds_of_wide 13 Try.f13 rfl rfl rfl rfl rfl rfl rfl ⟨rfl, rfl, rfl, rfl, rfl⟩ rfl rfl rfl rfl rfl (by kernel_rfl) Try.func13 (by kernel_rfl)
    (of_decide_eq_true (by kernel_rfl)) (by unfold Func.isWrapper; first | (rw [if_pos (by decide +kernel)]; kernel_rfl) | (rw [if_neg (by decide +kernel)]; exact ⟨rfl, rfl⟩))
    (fun os started H enc _ => levelSet_lifted os started H enc)
#print axioms levelSet_holds
end Go.Proofs.Ytgofljmnlfnlnaa
