/- If the sun is read with an index error and a diameter that can be, wrongly by so much at most, both lie between what Index returns, and no further pair makes either wider, for any sextant and diameter; numbers choose the truth, and the readings. Nothing is asked of the input. -/
import Derived.Test.YtjmkccckohcfkaaC6
set_option linter.unusedSimpArgs false
set_option linter.unusedVariables false
namespace Go.Proofs.Ytjmkccckohcfkaa
open Go.RowKit Go.Pm Go.Oc Go.Oh Go.Os
set_option maxRecDepth 100000
set_option linter.unusedVariables false
set_option maxHeartbeats 4000000

theorem sextantSunny_law (xs : List TV) (h : argsOk Try.prog Try.f9.params.toList xs) : PCalls Try.prog 9 xs (.bool true) := by
  have h := (show argsOk Try.prog [26, 24, 45] xs from h)
  obtain ⟨_, r, rfl, h1, h⟩ := argsOk_cons h
  obtain ⟨_, r, rfl, h2, h⟩ := argsOk_cons h
  obtain ⟨_, r, rfl, h3, h⟩ := argsOk_cons h
  cases argsOk_nil h
  obtain ⟨x, sT, sS, rfl, hT, hS, lT, lS⟩ := sxArg h1
  obtain ⟨D, rfl, iD0, iD1⟩ := spArg h2
  obtain ⟨bits, hb, lb, ib⟩ := intsArg h3
  exact SextantSunny_c x hT hS lT lS D hb (by omega) ib
theorem sextantSunny_lifted (os : Os) (started : os.Started) (H : Type) (enc : TypeId × Value → H) :
    ReturnsInHanded {} Try.checked os 9 .any (Rows.sextantSunnySpec.pre6 enc Try.prog Try.f9 Rows.sextantSunnyRow.domain false) (Rows.sextantSunnySpec.post enc Try.prog Try.f9 false true false false) := by
  refine law_lifted (C := Try.checked) (by kernel_rfl) started (by kernel_rfl) Try.func9
    (ChangeSpec.witness6 (enc := enc) (C := Try.checked) false ⟨#[], #[.agg #[.int .i64 0, .slice none 0 0, .int .i64 0, .int .i64 0, .int .i64 0, .slice none 0 0], .agg #[.int .i64 0, .int .i64 0], .slice none 0 0], []⟩ 8 (by kernel_rfl) (by kernel_rfl) (by kernel_rfl) (by kernel_rfl)) (by kernel_rfl) rfl rfl (by kernel_rfl) (by kernel_rfl) (by kernel_rfl) (fun ds h => ?_) sextantSunny_law
  match ds, h with
  | [d1, d2, d3], _ => rfl
theorem sextantSunny_holds : Rows.SextantSunnySaid :=
  OpenClaim.holds_of_wide 9 Try.f9 rfl rfl rfl rfl rfl rfl rfl ⟨rfl, rfl, rfl, rfl, rfl⟩ rfl rfl rfl rfl rfl (by kernel_rfl) Try.func9 (by kernel_rfl)
    (of_decide_eq_true (by kernel_rfl)) (by unfold Func.isWrapper; first | (rw [if_pos (by decide +kernel)]; kernel_rfl) | (rw [if_neg (by decide +kernel)]; exact ⟨rfl, rfl⟩))
    (fun os started H enc _ => sextantSunny_lifted os started H enc)
#print axioms sextantSunny_holds
end Go.Proofs.Ytjmkccckohcfkaa
