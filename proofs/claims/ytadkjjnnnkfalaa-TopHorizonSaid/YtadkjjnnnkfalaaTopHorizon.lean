/- An altitude that is taken over a glass that lies level: what a level leaves open of the tilt is taken off, whatever the sextant and the level err by; if a screw levels it, what is left open is the bound. Nothing is asked of the input. -/
import Derived.Test.YtadkjjnnnkfalaaC6
set_option linter.unusedSimpArgs false
set_option linter.unusedVariables false
namespace Go.Proofs.Ytadkjjnnnkfalaa
open Go.RowKit Go.Pm Go.Oc
set_option maxRecDepth 100000
set_option linter.unusedVariables false
set_option maxHeartbeats 4000000

theorem topHorizon_law (xs : List TV) (h : argsOk Try.prog Try.f5.params.toList xs) : PCalls Try.prog 5 xs (.bool true) := by
  have h := (show argsOk Try.prog [89, 97, 3] xs from h)
  obtain ⟨_, r, rfl, h1, h⟩ := argsOk_cons h
  obtain ⟨_, r, rfl, h2, h⟩ := argsOk_cons h
  obtain ⟨_, r, rfl, h3, h⟩ := argsOk_cons h
  cases argsOk_nil h
  obtain ⟨v, l, s, tv, tz, tt, wo, bo, rfl, hs, hl⟩ := xFooted h1
  obtain ⟨x, sT, sS, a1, s1, b1, s2, r0, r1, r2, r3, r4, r5, rfl, hT, hS, lT, lS⟩ := xSighted h2
  obtain ⟨n, rfl, i_n0, i_n1⟩ := xInt h3
  exact TopHorizon_c v hs hl tv tz tt wo bo x hT hS lT lS a1 s1 b1 s2 r0 r1 r2 r3 r4 r5 n
theorem topHorizon_lifted (os : Os) (started : os.Started) (H : Type) (enc : TypeId × Value → H) :
    ReturnsInHanded {} Try.checked os 5 .any (Rows.topHorizonSpec.pre6 enc Try.prog Try.f5 Rows.topHorizonRow.domain false) (Rows.topHorizonSpec.post enc Try.prog Try.f5 false true false false) := by
  refine law_lifted (C := Try.checked) (by kernel_rfl) started (by kernel_rfl) Try.func5
    (ChangeSpec.witness6 (enc := enc) (C := Try.checked) false ⟨#[], #[.agg #[.int .i64 0, .int .i64 0, .int .i64 0, .int .i64 0, .int .i64 0, .int .i64 0, .int .i64 0, .int .i64 0, .slice none 0 0, .int .i64 0, .int .i64 0, .int .i64 0, .int .i64 0, .int .i64 0], .agg #[.int .i64 0, .slice none 0 0, .int .i64 0, .int .i64 0, .int .i64 0, .slice none 0 0, .int .i64 0, .int .i64 0, .int .i64 0, .int .i64 0, .int .i64 0, .int .i64 0, .int .i64 0, .int .i64 0, .int .i64 0, .int .i64 0], .int .i64 0], []⟩ 8 (by kernel_rfl) (by kernel_rfl) (by kernel_rfl) (by kernel_rfl)) (by kernel_rfl) rfl rfl (by kernel_rfl) (by kernel_rfl) (by kernel_rfl) (fun ds h => ?_) topHorizon_law
  match ds, h with
  | [d1, d2, d3], _ => rfl
theorem topHorizon_holds : Rows.TopHorizonSaid :=
  OpenClaim.holds_of_wide 5 Try.f5 rfl rfl rfl rfl rfl rfl rfl ⟨rfl, rfl, rfl, rfl, rfl⟩ rfl rfl rfl rfl rfl (by kernel_rfl) Try.func5 (by kernel_rfl)
    (of_decide_eq_true (by kernel_rfl)) (by unfold Func.isWrapper; first | (rw [if_pos (by decide +kernel)]; kernel_rfl) | (rw [if_neg (by decide +kernel)]; exact ⟨rfl, rfl⟩))
    (fun os started H enc _ => topHorizon_lifted os started H enc)
#print axioms topHorizon_holds
end Go.Proofs.Ytadkjjnnnkfalaa
