/- The true curvature of a surface is in one of the spans, whatever the plates truly are; these do not touch each other; with one reading more none is added, for any readings; numbers choose the surface and the plates. Nothing is asked of the input. -/
import Derived.Test.YtcjcnmpecmbdeaaC6
set_option linter.unusedSimpArgs false
set_option linter.unusedVariables false
namespace Go.Proofs.Ytcjcnmpecmbdeaa
open Go.RowKit Go.Pm Go.Oc
set_option maxRecDepth 100000
set_option linter.unusedVariables false
set_option maxHeartbeats 4000000

theorem glassRinged_law (xs : List TV) (h : argsOk Try.prog Try.f14.params.toList xs) : PCalls Try.prog 14 xs (.bool true) := by
  have h := (show argsOk Try.prog [56, 91, 29] xs from h)
  obtain ⟨_, r, rfl, h1, h⟩ := argsOk_cons h
  obtain ⟨_, r, rfl, h2, h⟩ := argsOk_cons h
  obtain ⟨_, r, rfl, h3, h⟩ := argsOk_cons h
  cases argsOk_nil h
  obtain ⟨l, hl, ll, il⟩ := frsArg h1
  obtain ⟨n0, n1, rfl, i0, i1⟩ := twoArg h2
  obtain ⟨bits, hb, lb, ib⟩ := intsArg h3
  exact GlassRinged_c hl (by omega) n0 n1 hb (by omega)
theorem glassRinged_lifted (os : Os) (started : os.Started) (H : Type) (enc : TypeId × Value → H) :
    ReturnsInHanded {} Try.checked os 14 .any (Rows.glassRingedSpec.pre6 enc Try.prog Try.f14 Rows.glassRingedRow.domain false) (Rows.glassRingedSpec.post enc Try.prog Try.f14 false true false false) := by
  refine law_lifted (C := Try.checked) (by kernel_rfl) started (by kernel_rfl) Try.func14
    (ChangeSpec.witness6 (enc := enc) (C := Try.checked) false ⟨#[], #[.slice none 0 0, .agg #[.int .i64 0, .int .i64 0], .slice none 0 0], []⟩ 8 (by kernel_rfl) (by kernel_rfl) (by kernel_rfl) (by kernel_rfl)) (by kernel_rfl) rfl rfl (by kernel_rfl) (by kernel_rfl) (by kernel_rfl) (fun ds h => ?_) glassRinged_law
  match ds, h with
  | [d1, d2, d3], _ => rfl
theorem glassRinged_holds : Rows.GlassRingedSaid :=
  OpenClaim.holds_of_wide 14 Try.f14 rfl rfl rfl rfl rfl rfl rfl ⟨rfl, rfl, rfl, rfl, rfl⟩ rfl rfl rfl rfl rfl (by kernel_rfl) Try.func14 (by kernel_rfl)
    (of_decide_eq_true (by kernel_rfl)) (by unfold Func.isWrapper; first | (rw [if_pos (by decide +kernel)]; kernel_rfl) | (rw [if_neg (by decide +kernel)]; exact ⟨rfl, rfl⟩))
    (fun os started H enc _ => glassRinged_lifted os started H enc)
#print axioms glassRinged_holds
end Go.Proofs.Ytcjcnmpecmbdeaa
