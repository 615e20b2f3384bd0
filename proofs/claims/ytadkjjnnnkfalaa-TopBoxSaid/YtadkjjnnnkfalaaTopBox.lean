/- Three clocks of one kind are carried in one box and compared each day: as long as each of them goes within its cone, none is named; one that jumps is named, and not before its day. Nothing is asked of the input. -/
import Derived.Test.YtadkjjnnnkfalaaC6
set_option linter.unusedSimpArgs false
set_option linter.unusedVariables false
namespace Go.Proofs.Ytadkjjnnnkfalaa
open Go.RowKit Go.Pm Go.Oc
set_option maxRecDepth 100000
set_option linter.unusedVariables false
set_option maxHeartbeats 4000000

theorem topBox_law (xs : List TV) (h : argsOk Try.prog Try.f4.params.toList xs) : PCalls Try.prog 4 xs (.bool true) := by
  have h := (show argsOk Try.prog [64, 23, 3, 39] xs from h)
  obtain ⟨_, r, rfl, h1, h⟩ := argsOk_cons h
  obtain ⟨_, r, rfl, h2, h⟩ := argsOk_cons h
  obtain ⟨_, r, rfl, h3, h⟩ := argsOk_cons h
  obtain ⟨_, r, rfl, h4, h⟩ := argsOk_cons h
  cases argsOk_nil h
  obtain ⟨c, sM, sR, rfl, hM, hR, lM, lR⟩ := xClock h1
  obtain ⟨D, hD, lD, iD⟩ := xSpans h2
  obtain ⟨n, rfl, i_n0, i_n1⟩ := xInt h3
  obtain ⟨bits, hb, lb, ib⟩ := xInts h4
  exact TopBox_c c hM hR lM lR hD lD n hb (by omega)
theorem topBox_lifted (os : Os) (started : os.Started) (H : Type) (enc : TypeId × Value → H) :
    ReturnsInHanded {} Try.checked os 4 .any (Rows.topBoxSpec.pre6 enc Try.prog Try.f4 Rows.topBoxRow.domain false) (Rows.topBoxSpec.post enc Try.prog Try.f4 false true false false) := by
  refine law_lifted (C := Try.checked) (by kernel_rfl) started (by kernel_rfl) Try.func4
    (ChangeSpec.witness6 (enc := enc) (C := Try.checked) false ⟨#[], #[.agg #[.slice none 0 0, .slice none 0 0, .int .i64 0, .int .i64 0, .int .i64 0, .int .i64 0], .slice none 0 0, .int .i64 0, .slice none 0 0], []⟩ 8 (by kernel_rfl) (by kernel_rfl) (by kernel_rfl) (by kernel_rfl)) (by kernel_rfl) rfl rfl (by kernel_rfl) (by kernel_rfl) (by kernel_rfl) (fun ds h => ?_) topBox_law
  match ds, h with
  | [d1, d2, d3, d4], _ => rfl
theorem topBox_holds : Rows.TopBoxSaid :=
  OpenClaim.holds_of_wide 4 Try.f4 rfl rfl rfl rfl rfl rfl rfl ⟨rfl, rfl, rfl, rfl, rfl⟩ rfl rfl rfl rfl rfl (by kernel_rfl) Try.func4 (by kernel_rfl)
    (of_decide_eq_true (by kernel_rfl)) (by unfold Func.isWrapper; first | (rw [if_pos (by decide +kernel)]; kernel_rfl) | (rw [if_neg (by decide +kernel)]; exact ⟨rfl, rfl⟩))
    (fun os started H enc _ => topBox_lifted os started H enc)
#print axioms topBox_holds
end Go.Proofs.Ytadkjjnnnkfalaa
