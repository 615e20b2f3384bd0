/- Level: the clicks of the program are those of the specification, for any tilt, worth and bound. Nothing is asked of the input. -/
import Derived.Test.YtgofljmnlfnlnaaC5
set_option linter.unusedSimpArgs false
set_option linter.unusedVariables false
namespace Go.Proofs.Ytgofljmnlfnlnaa
open Go.RowKit Go.Pm Go.Oc
set_option maxRecDepth 100000
set_option linter.unusedVariables false
set_option maxHeartbeats 4000000

theorem int_cells {k : Nat} {cs : List TV} (h : cellsOk Try.prog (k + 1) 3 cs) : ∃ n, cs = [.int .i64 n] ∧ In64 n := cellsOk_i64 (by kernel_rfl) h
theorem span_cells {k : Nat} {cs : List TV} (h : cellsOk Try.prog (k + 2) 23 cs) : ∃ s : Span, cs = s.cs ∧ In64 s.lo ∧ In64 s.hi := by
  have h := cellsOk_tys (ts := [3, 3]) (by kernel_rfl) h
  obtain ⟨_, r, rfl, h1, h⟩ := seqOk_cons h
  obtain ⟨_, r, rfl, h2, h⟩ := seqOk_cons h
  cases seqOk_nil h
  obtain ⟨a, rfl, ha⟩ := int_cells h1
  obtain ⟨b, rfl, hb⟩ := int_cells h2
  exact ⟨⟨a, b⟩, rfl, ha, hb⟩
theorem spanArg {x : TV} (h : argOk Try.prog 23 x) : ∃ s : Span, x = s.t := by
  obtain ⟨cs, rfl, h'⟩ := argOk_agg (ts := [3, 3]) (by kernel_rfl) h
  obtain ⟨s, rfl, _⟩ := span_cells h'
  exact ⟨s, rfl⟩
theorem intArg {x : TV} (h : argOk Try.prog 3 x) : ∃ n, x = .int .i64 n ∧ In64 n := argOk_i64 (by kernel_rfl) h
theorem levelClicks_law (xs : List TV) (h : argsOk Try.prog Try.f6.params.toList xs) : PCalls Try.prog 6 xs (.bool true) := by
  obtain ⟨_, r, rfl, h1, h⟩ := argsOk_cons (show argsOk Try.prog [23, 3, 3] xs from h)
  obtain ⟨_, r, rfl, h2, h⟩ := argsOk_cons h
  obtain ⟨_, r, rfl, h3, h⟩ := argsOk_cons h
  cases argsOk_nil h
  obtain ⟨t, rfl⟩ := spanArg h1
  obtain ⟨w, rfl, _⟩ := intArg h2
  obtain ⟨n, rfl, _⟩ := intArg h3
  exact LevelClicks_c t w n
theorem levelClicks_lifted (os : Os) (started : os.Started) (H : Type) (enc : TypeId × Value → H) :
    ReturnsInHanded {} Try.checked os 6 .any (Rows.levelClicksSpec.pre6 enc Try.prog Try.f6 Rows.levelClicksRow.domain false) (Rows.levelClicksSpec.post enc Try.prog Try.f6 false true false false) := by
  refine law_lifted (C := Try.checked) (by kernel_rfl) started (by kernel_rfl) Try.func6
    (ChangeSpec.witness6 (enc := enc) (C := Try.checked) false ⟨#[], #[.agg #[.int .i64 0, .int .i64 0], .int .i64 0, .int .i64 0], []⟩ 8 (by kernel_rfl) (by kernel_rfl) (by kernel_rfl) (by kernel_rfl)) (by kernel_rfl) rfl rfl (by kernel_rfl) (by kernel_rfl) (by kernel_rfl) (fun ds h => ?_) levelClicks_law
  match ds, h with
  | [a, b, c], _ => rfl
theorem levelClicks_holds : Rows.LevelClicksSaid :=
  OpenClaim.holds_of_wide 6 Try.f6 rfl rfl rfl rfl rfl rfl rfl ⟨rfl, rfl, rfl, rfl, rfl⟩ rfl rfl rfl rfl rfl (by kernel_rfl) Try.func6 (by kernel_rfl)
    (of_decide_eq_true (by kernel_rfl)) (by unfold Func.isWrapper; first | (rw [if_pos (by decide +kernel)]; kernel_rfl) | (rw [if_neg (by decide +kernel)]; exact ⟨rfl, rfl⟩))
    (fun os started H enc _ => levelClicks_lifted os started H enc)
#print axioms levelClicks_holds
end Go.Proofs.Ytgofljmnlfnlnaa
