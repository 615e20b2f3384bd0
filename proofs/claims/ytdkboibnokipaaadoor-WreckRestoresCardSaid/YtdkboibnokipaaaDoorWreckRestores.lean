/- CheckPage, Restore and Ask of the program are those of the specification, for any page. Asked of the input: nothing; of the package-level variables: what the card ties to the program's text. -/
import Derived.Test.YtdkboibnokipaaaDoorC7
set_option linter.unusedSimpArgs false
set_option linter.unusedVariables false
namespace Go.Proofs.YtdkboibnokipaaaDoor
open Go.RowKit Go.Pm Go.Ow
set_option maxRecDepth 100000
set_option linter.unusedVariables false
set_option maxHeartbeats 4000000

theorem wreckRestores_law (xs : List TV) (h : argsOk Tryd.prog Tryd.f3.params.toList xs) : PCalls Tryd.prog 3 xs (.bool true) := by
  have h := (show argsOk Tryd.prog [22] xs from h)
  obtain ⟨_, r, rfl, h1, h⟩ := argsOk_cons h
  cases argsOk_nil h
  obtain ⟨p, hp, lp, lp2⟩ := pageArg h1
  exact WreckRestores_c hp lp lp2
theorem wreckRestores_lifted (os : Os) (started : os.Started) (H : Type) (enc : TypeId × Value → H) :
    ReturnsInHanded {} Tryd.checked os 3 .any (fun w args => (Rows.wreckRestoresSpec.pre enc Tryd.prog Tryd.f3 [] false w args ∧ laidMetH Tryd.prog [("unicode/utf8.acceptRanges", Rows.laid_unicode_utf8_acceptRanges), ("octant/wreck.kinds", Rows.laid_octant_wreck_kinds), ("unicode/utf8.first", Rows.laid_unicode_utf8_first)] w) ∧ sizedMet enc Tryd.prog Tryd.f3 (OpenSpec.ofChange Rows.wreckRestoresSpec) false w args) (Rows.wreckRestoresSpec.post enc Tryd.prog Tryd.f3 false true false false) := by
  refine law_laid (C := Tryd.checked) (X := fun w _ => laidMetH Tryd.prog [("unicode/utf8.acceptRanges", Rows.laid_unicode_utf8_acceptRanges), ("octant/wreck.kinds", Rows.laid_octant_wreck_kinds), ("unicode/utf8.first", Rows.laid_unicode_utf8_first)] w) (fun _ _ _ hh h => h.of_heap hh) (fun _ _ h => wk_glob (.tail _ (.head _)) h) (by kernel_rfl) started (by kernel_rfl) Tryd.func3
    (ChangeSpec.witness_shaped (enc := enc) (C := Tryd.checked) (os := os) (X := fun w _ => laidMetH Tryd.prog [("unicode/utf8.acceptRanges", Rows.laid_unicode_utf8_acceptRanges), ("octant/wreck.kinds", Rows.laid_octant_wreck_kinds), ("unicode/utf8.first", Rows.laid_unicode_utf8_first)] w) false (wk_start os) #[.slice none 0 0] 8 (wk_start_os os) (wk_shaped os _) (by kernel_rfl) (by kernel_rfl) (by kernel_rfl) (wk_met os _)) (by kernel_rfl) rfl rfl (by kernel_rfl) (by kernel_rfl) (by kernel_rfl) (fun ds h => ?_) wreckRestores_law
  match ds, h with
  | [d1], _ => rfl
theorem wreckRestores_said : Rows.WreckRestoresSaid :=
  OpenClaim.holds_of_wide 3 Tryd.f3 rfl rfl rfl rfl rfl rfl rfl ⟨rfl, rfl, rfl, rfl, rfl⟩ rfl rfl rfl rfl rfl (by kernel_rfl) Tryd.func3 (by kernel_rfl)
    (of_decide_eq_true (by kernel_rfl)) (by unfold Func.isWrapper; first | (rw [if_pos (by decide +kernel)]; kernel_rfl) | (rw [if_neg (by decide +kernel)]; exact ⟨rfl, rfl⟩))
    (fun os started H enc _ => wreckRestores_lifted os started H enc)
theorem wreckRestores_holds : Rows.WreckRestoresCardSaid :=
  Claim7.holds_tied_plain_at .later [] [.data, .funcs, .pinned] true (true, "d8a99f382aad03e2df2615e40ca88e7bf8c3dec40c01936899a828dc21c7ea28") true
    wreckRestores_said (fun _ h => by cases h) (by kernel_rfl) (fun _ h => by cases h) wreckRestores_row_tie rfl ⟨rfl, rfl⟩ (by kernel_rfl) rfl
    (fun f fn hf hfn => by
      obtain rfl : f = 3 := Option.some.inj ((show Tryd.prog.funcNamed "octant/octantlaw09.WreckRestores" = some 3 by kernel_rfl).symm.trans hf) |>.symm
      obtain rfl : fn = Tryd.f3 := (Option.some.inj (Tryd.func3.symm.trans hfn)).symm
      exact ⟨by kernel_rfl, fun j t ht => by
        rw [Tryd.params3] at ht
        have hm : t ∈ [22] := by simpa using Array.mem_of_getElem? ht
        have hall : ([22].all fun u => !Tryd.prog.wantsStandIn u) = true := by kernel_rfl
        exact (show Tryd.prog.wantsStandIn t = false by simpa using List.all_eq_true.1 hall t hm)⟩)
    (by kernel_rfl)
#print axioms wreckRestores_holds
end Go.Proofs.YtdkboibnokipaaaDoor
