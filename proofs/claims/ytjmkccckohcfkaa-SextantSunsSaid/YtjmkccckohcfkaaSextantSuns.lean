/- Index of the program is that of the specification, for any sextant, diameter and pairs. Nothing is asked of the input. -/
import Derived.Test.YtjmkccckohcfkaaC6
set_option linter.unusedSimpArgs false
set_option linter.unusedVariables false
namespace Go.Proofs.Ytjmkccckohcfkaa
open Go.RowKit Go.Pm Go.Oc Go.Oh Go.Os
set_option maxRecDepth 100000
set_option linter.unusedVariables false
set_option maxHeartbeats 4000000

theorem sextantSuns_law (xs : List TV) (h : argsOk Try.prog Try.f4.params.toList xs) : PCalls Try.prog 4 xs (.bool true) := by
  have h := (show argsOk Try.prog [26, 24, 37] xs from h)
  obtain ⟨_, r, rfl, h1, h⟩ := argsOk_cons h
  obtain ⟨_, r, rfl, h2, h⟩ := argsOk_cons h
  obtain ⟨_, r, rfl, h3, h⟩ := argsOk_cons h
  cases argsOk_nil h
  obtain ⟨x, sT, sS, rfl, hT, hS, lT, lS⟩ := sxArg h1
  obtain ⟨D, rfl, iD0, iD1⟩ := spArg h2
  obtain ⟨l, hl, ll⟩ := sunsArg h3
  exact SextantSuns_c x hT hS lT lS D hl ll
theorem sextantSuns_lifted (os : Os) (started : os.Started) (H : Type) (enc : TypeId × Value → H) :
    ReturnsInHanded {} Try.checked os 4 .any (Rows.sextantSunsSpec.pre6 enc Try.prog Try.f4 Rows.sextantSunsRow.domain false) (Rows.sextantSunsSpec.post enc Try.prog Try.f4 false true false false) := by
  refine law_lifted (C := Try.checked) (by kernel_rfl) started (by kernel_rfl) Try.func4
    (ChangeSpec.witness6 (enc := enc) (C := Try.checked) false ⟨#[], #[.agg #[.int .i64 0, .slice none 0 0, .int .i64 0, .int .i64 0, .int .i64 0, .slice none 0 0], .agg #[.int .i64 0, .int .i64 0], .slice none 0 0], []⟩ 8 (by kernel_rfl) (by kernel_rfl) (by kernel_rfl) (by kernel_rfl)) (by kernel_rfl) rfl rfl (by kernel_rfl) (by kernel_rfl) (by kernel_rfl) (fun ds h => ?_) sextantSuns_law
  match ds, h with
  | [d1, d2, d3], _ => rfl
theorem sextantSuns_holds : Rows.SextantSunsSaid :=
  OpenClaim.holds_of_wide 4 Try.f4 rfl rfl rfl rfl rfl rfl rfl ⟨rfl, rfl, rfl, rfl, rfl⟩ rfl rfl rfl rfl rfl (by kernel_rfl) Try.func4 (by kernel_rfl)
    (of_decide_eq_true (by kernel_rfl)) (by unfold Func.isWrapper; first | (rw [if_pos (by decide +kernel)]; kernel_rfl) | (rw [if_neg (by decide +kernel)]; exact ⟨rfl, rfl⟩))
    (fun os started H enc _ => sextantSuns_lifted os started H enc)
#print axioms sextantSuns_holds
end Go.Proofs.Ytjmkccckohcfkaa
