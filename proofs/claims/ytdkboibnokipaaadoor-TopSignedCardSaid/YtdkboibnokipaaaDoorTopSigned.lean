/- Whoever is told off for the tasks of a repair signs it, one after the other: a claim with all marks, in order, is true, on each day with those until then; with two marks exchanged that are not the same it is false, and the first of them is named, for any journeymen and tasks; numbers choose the day, and the marks. Asked of the input: nothing; of the package-level variables: what the card ties to the program's text. -/
import Derived.Test.YtdkboibnokipaaaDoorC6
set_option linter.unusedSimpArgs false
set_option linter.unusedVariables false
namespace Go.Proofs.YtdkboibnokipaaaDoor
open Go.RowKit Go.Pm Go.Ow
set_option maxRecDepth 100000
set_option linter.unusedVariables false
set_option maxHeartbeats 4000000

theorem topSigned_law (xs : List TV) (h : argsOk Tryd.prog Tryd.f13.params.toList xs) : PCalls Tryd.prog 13 xs (.bool true) := by
  have h := (show argsOk Tryd.prog [77, 52, 59] xs from h)
  obtain ⟨_, r, rfl, h1, h⟩ := argsOk_cons h
  obtain ⟨_, r, rfl, h2, h⟩ := argsOk_cons h
  obtain ⟨_, r, rfl, h3, h⟩ := argsOk_cons h
  cases argsOk_nil h
  obtain ⟨M, hm, lM⟩ := menArg h1
  obtain ⟨T, ht, lT, _⟩ := intsArg h2
  obtain ⟨n0, n1, n2, rfl, i0, i1, i2⟩ := threeArg h3
  exact TopSigned_c ht hm lM lT n0 n1 n2 (hPosts_c ht hm)
theorem topSigned_lifted (os : Os) (started : os.Started) (H : Type) (enc : TypeId × Value → H) :
    ReturnsInHanded {} Tryd.checked os 13 .any (fun w args => (Rows.topSignedSpec.pre enc Tryd.prog Tryd.f13 [] false w args ∧ laidMetH Tryd.prog [("octant/wreck.kinds", Rows.laid_octant_wreck_kinds)] w) ∧ sizedMet enc Tryd.prog Tryd.f13 (OpenSpec.ofChange Rows.topSignedSpec) false w args) (Rows.topSignedSpec.post enc Tryd.prog Tryd.f13 false true false false) := by
  refine law_laid (C := Tryd.checked) (X := fun w _ => laidMetH Tryd.prog [("octant/wreck.kinds", Rows.laid_octant_wreck_kinds)] w) (fun _ _ _ hh h => h.of_heap hh) (fun _ _ h => wk_glob (.head _) h) (by kernel_rfl) started (by kernel_rfl) Tryd.func13
    (ChangeSpec.witness_shaped (enc := enc) (C := Tryd.checked) (os := os) (X := fun w _ => laidMetH Tryd.prog [("octant/wreck.kinds", Rows.laid_octant_wreck_kinds)] w) false (wk_start os) #[.slice none 0 0, .slice none 0 0, .agg #[.int .i64 0, .int .i64 0, .int .i64 0]] 8 (wk_start_os os) (wk_shaped os _) (by kernel_rfl) (by kernel_rfl) (by kernel_rfl) (wk_met1 os _)) (by kernel_rfl) rfl rfl (by kernel_rfl) (by kernel_rfl) (by kernel_rfl) (fun ds h => ?_) topSigned_law
  match ds, h with
  | [d1, d2, d3], _ => rfl
theorem topSigned_said : Rows.TopSignedSaid :=
  OpenClaim.holds_of_wide 13 Tryd.f13 rfl rfl rfl rfl rfl rfl rfl ⟨rfl, rfl, rfl, rfl, rfl⟩ rfl rfl rfl rfl rfl (by kernel_rfl) Tryd.func13 (by kernel_rfl)
    (of_decide_eq_true (by kernel_rfl)) (by unfold Func.isWrapper; first | (rw [if_pos (by decide +kernel)]; kernel_rfl) | (rw [if_neg (by decide +kernel)]; exact ⟨rfl, rfl⟩))
    (fun os started H enc _ => topSigned_lifted os started H enc)
theorem topSigned_holds : Rows.TopSignedCardSaid :=
  Claim7.holds_tied_plain_at .later [] [.funcs] true (true, "d8a99f382aad03e2df2615e40ca88e7bf8c3dec40c01936899a828dc21c7ea28") true
    topSigned_said (fun _ h => by cases h) (by kernel_rfl) (fun _ h => by cases h) topSigned_row_tie rfl ⟨rfl, rfl⟩ (by kernel_rfl) rfl
    (fun f fn hf hfn => by
      obtain rfl : f = 13 := Option.some.inj ((show Tryd.prog.funcNamed "octant/octanttop.TopSigned" = some 13 by kernel_rfl).symm.trans hf) |>.symm
      obtain rfl : fn = Tryd.f13 := (Option.some.inj (Tryd.func13.symm.trans hfn)).symm
      exact ⟨by kernel_rfl, fun j t ht => by
        rw [Tryd.params13] at ht
        have hm : t ∈ [77, 52, 59] := by simpa using Array.mem_of_getElem? ht
        have hall : ([77, 52, 59].all fun u => !Tryd.prog.wantsStandIn u) = true := by kernel_rfl
        exact (show Tryd.prog.wantsStandIn t = false by simpa using List.all_eq_true.1 hall t hm)⟩)
    (by kernel_rfl)
#print axioms topSigned_holds
end Go.Proofs.YtdkboibnokipaaaDoor
