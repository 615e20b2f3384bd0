/- A tilt is read by a level, and turned away by a foot screw that errs: then it is at most the bound, and what the screw may err by at this turn, for any vial, readings, truth, screws and errors; a number chooses the turn. Asked of the input: nothing; of the package-level variable: what the card ties to the program's text. -/
import Derived.Test.YtlonlnfenbadbaaDoorC6
set_option linter.unusedSimpArgs false
set_option linter.unusedVariables false
namespace Go.Proofs.YtlonlnfenbadbaaDoor
open Go.RowKit Go.Pm Go.Oc
set_option maxRecDepth 100000
set_option linter.unusedVariables false
set_option maxHeartbeats 4000000

open Ix
theorem topFooted_law (xs : List TV) (h : argsOk Tryd.prog Tryd.f4.params.toList xs) : PCalls Tryd.prog 4 xs (.bool true) := by
  have h := (show argsOk Tryd.prog [48, 54, 3] xs from h)
  obtain ⟨_, r, rfl, h1, h⟩ := argsOk_cons h
  obtain ⟨_, r, rfl, h2, h⟩ := argsOk_cons h
  obtain ⟨_, r, rfl, h3, h⟩ := argsOk_cons h
  cases argsOk_nil h
  obtain ⟨v, l, s, tv, tz, tt, wo, bo, rfl, hs, hl⟩ := xFootedF h1
  obtain ⟨T, sT, M, L, sL, E, sE, rfl, hT, lT, hL, lL, hE, lE⟩ := xScrewed h2
  obtain ⟨n, rfl, i_n⟩ := intArg h3
  exact TopFooted_c v hs hl tv tz tt wo bo M hT lT hL lL hE lE n
theorem topFooted_lifted (os : Os) (started : os.Started) (H : Type) (enc : TypeId × Value → H) :
    ReturnsInHanded {} Tryd.checked os 4 .any (fun w args => (Rows.topFootedSpec.pre enc Tryd.prog Tryd.f4 [] false w args ∧ laidMetH Tryd.prog [("octant/index.noTrain", Rows.laid_octant_index_noTrain)] w) ∧ sizedMet enc Tryd.prog Tryd.f4 (OpenSpec.ofChange Rows.topFootedSpec) false w args) (Rows.topFootedSpec.post enc Tryd.prog Tryd.f4 false true false false) := by
  refine law_laid (C := Tryd.checked) (X := fun w _ => laidMetH Tryd.prog [("octant/index.noTrain", Rows.laid_octant_index_noTrain)] w) (fun _ _ _ hh h => h.of_heap hh) (fun _ _ h => ix_glob h) (by kernel_rfl) started (by kernel_rfl) Tryd.func4
    (ChangeSpec.witness_shaped (enc := enc) (C := Tryd.checked) (os := os) (X := fun w _ => laidMetH Tryd.prog [("octant/index.noTrain", Rows.laid_octant_index_noTrain)] w) false (World.doorLaid Tryd.prog 14 os) #[.agg #[.int .i64 0, .int .i64 0, .int .i64 0, .int .i64 0, .int .i64 0, .int .i64 0, .int .i64 0, .int .i64 0, .slice none 0 0, .int .i64 0, .int .i64 0, .int .i64 0, .int .i64 0, .int .i64 0], .agg #[.slice none 0 0, .int .i64 0, .slice none 0 0, .slice none 0 0], .int .i64 0] 8 rfl (ix_shaped os _) (by kernel_rfl) (by kernel_rfl) (by kernel_rfl) (ix_met os _)) (by kernel_rfl) rfl rfl (by kernel_rfl) (by kernel_rfl) (by kernel_rfl) (fun ds h => ?_) topFooted_law
  match ds, h with
  | [d1, d2, d3], _ => rfl
theorem topFooted_said : Rows.TopFootedSaid :=
  OpenClaim.holds_of_wide 4 Tryd.f4 rfl rfl rfl rfl rfl rfl rfl ⟨rfl, rfl, rfl, rfl, rfl⟩ rfl rfl rfl rfl rfl (by kernel_rfl) Tryd.func4 (by kernel_rfl)
    (of_decide_eq_true (by kernel_rfl)) (by unfold Func.isWrapper; first | (rw [if_pos (by decide +kernel)]; kernel_rfl) | (rw [if_neg (by decide +kernel)]; exact ⟨rfl, rfl⟩))
    (fun os started H enc _ => topFooted_lifted os started H enc)
theorem topFooted_holds : Rows.TopFootedCardSaid :=
  Claim7.holds_tied_plain_at .later [] [.data] true (true, "2db607075c7c2b29d6428a0a745bdf86b9f6f32180c7df910fd0ab812c26f267") true
    topFooted_said (fun _ h => by cases h) (by kernel_rfl) (fun _ h => by cases h) topFooted_row_tie rfl ⟨rfl, rfl⟩ (by kernel_rfl) rfl
    (fun f fn hf hfn => by
      obtain rfl : f = 4 := Option.some.inj ((show Tryd.prog.funcNamed "octant/octanttop.TopFooted" = some 4 by kernel_rfl).symm.trans hf) |>.symm
      obtain rfl : fn = Tryd.f4 := (Option.some.inj (Tryd.func4.symm.trans hfn)).symm
      exact ⟨by kernel_rfl, fun j t ht => by
        rw [Tryd.params4] at ht
        have hm : t ∈ [48, 54, 3] := by simpa using Array.mem_of_getElem? ht
        have hall : ([48, 54, 3].all fun u => !Tryd.prog.wantsStandIn u) = true := by kernel_rfl
        exact (show Tryd.prog.wantsStandIn t = false by simpa using List.all_eq_true.1 hall t hm)⟩)
    (by kernel_rfl)
#print axioms topFooted_holds
end Go.Proofs.YtlonlnfenbadbaaDoor
