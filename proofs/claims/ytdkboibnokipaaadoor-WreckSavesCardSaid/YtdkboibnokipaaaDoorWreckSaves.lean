/- Whatever was lost of a page whose sums are right is restored as it was, a reading agrees, and with one lost byte more no fewer agree and no more is sure, for any page and lost bytes that numbers choose. Asked of the input: nothing; of the package-level variables: what the card ties to the program's text. -/
import Derived.Test.YtdkboibnokipaaaDoorC7
set_option linter.unusedSimpArgs false
set_option linter.unusedVariables false
namespace Go.Proofs.YtdkboibnokipaaaDoor
open Go.RowKit Go.Pm Go.Ow
set_option maxRecDepth 100000
set_option linter.unusedVariables false
set_option maxHeartbeats 4000000

theorem wreckSaves_law (xs : List TV) (h : argsOk Tryd.prog Tryd.f6.params.toList xs) : PCalls Tryd.prog 6 xs (.bool true) := by
  have h := (show argsOk Tryd.prog [52, 52] xs from h)
  obtain ⟨_, r, rfl, h1, h⟩ := argsOk_cons h
  obtain ⟨_, r, rfl, h2, h⟩ := argsOk_cons h
  cases argsOk_nil h
  obtain ⟨bits, hb, lb⟩ := intsArg h1
  obtain ⟨lost, hl, ll⟩ := intsArg h2
  exact WreckSaves_c hb lb hl ll
theorem wreckSaves_lifted (os : Os) (started : os.Started) (H : Type) (enc : TypeId × Value → H) :
    ReturnsInHanded {} Tryd.checked os 6 .any (fun w args => (Rows.wreckSavesSpec.pre enc Tryd.prog Tryd.f6 [] false w args ∧ laidMetH Tryd.prog [("unicode/utf8.acceptRanges", Rows.laid_unicode_utf8_acceptRanges), ("octant/wreck.kinds", Rows.laid_octant_wreck_kinds), ("unicode/utf8.first", Rows.laid_unicode_utf8_first)] w) ∧ sizedMet enc Tryd.prog Tryd.f6 (OpenSpec.ofChange Rows.wreckSavesSpec) false w args) (Rows.wreckSavesSpec.post enc Tryd.prog Tryd.f6 false true false false) := by
  refine law_laid (C := Tryd.checked) (X := fun w _ => laidMetH Tryd.prog [("unicode/utf8.acceptRanges", Rows.laid_unicode_utf8_acceptRanges), ("octant/wreck.kinds", Rows.laid_octant_wreck_kinds), ("unicode/utf8.first", Rows.laid_unicode_utf8_first)] w) (fun _ _ _ hh h => h.of_heap hh) (fun _ _ h => wk_glob (.tail _ (.head _)) h) (by kernel_rfl) started (by kernel_rfl) Tryd.func6
    (ChangeSpec.witness_shaped (enc := enc) (C := Tryd.checked) (os := os) (X := fun w _ => laidMetH Tryd.prog [("unicode/utf8.acceptRanges", Rows.laid_unicode_utf8_acceptRanges), ("octant/wreck.kinds", Rows.laid_octant_wreck_kinds), ("unicode/utf8.first", Rows.laid_unicode_utf8_first)] w) false (wk_start os) #[.slice none 0 0, .slice none 0 0] 8 (wk_start_os os) (wk_shaped os _) (by kernel_rfl) (by kernel_rfl) (by kernel_rfl) (wk_met os _)) (by kernel_rfl) rfl rfl (by kernel_rfl) (by kernel_rfl) (by kernel_rfl) (fun ds h => ?_) wreckSaves_law
  match ds, h with
  | [d1, d2], _ => rfl
theorem wreckSaves_said : Rows.WreckSavesSaid :=
  OpenClaim.holds_of_wide 6 Tryd.f6 rfl rfl rfl rfl rfl rfl rfl ⟨rfl, rfl, rfl, rfl, rfl⟩ rfl rfl rfl rfl rfl (by kernel_rfl) Tryd.func6 (by kernel_rfl)
    (of_decide_eq_true (by kernel_rfl)) (by unfold Func.isWrapper; first | (rw [if_pos (by decide +kernel)]; kernel_rfl) | (rw [if_neg (by decide +kernel)]; exact ⟨rfl, rfl⟩))
    (fun os started H enc _ => wreckSaves_lifted os started H enc)
theorem wreckSaves_holds : Rows.WreckSavesCardSaid :=
  Claim7.holds_tied_plain_at .later [] [.data, .funcs, .pinned] true (true, "d8a99f382aad03e2df2615e40ca88e7bf8c3dec40c01936899a828dc21c7ea28") true
    wreckSaves_said (fun _ h => by cases h) (by kernel_rfl) (fun _ h => by cases h) wreckSaves_row_tie rfl ⟨rfl, rfl⟩ (by kernel_rfl) rfl
    (fun f fn hf hfn => by
      obtain rfl : f = 6 := Option.some.inj ((show Tryd.prog.funcNamed "octant/octantlaw09.WreckSaves" = some 6 by kernel_rfl).symm.trans hf) |>.symm
      obtain rfl : fn = Tryd.f6 := (Option.some.inj (Tryd.func6.symm.trans hfn)).symm
      exact ⟨by kernel_rfl, fun j t ht => by
        rw [Tryd.params6] at ht
        have hm : t ∈ [52, 52] := by simpa using Array.mem_of_getElem? ht
        have hall : ([52, 52].all fun u => !Tryd.prog.wantsStandIn u) = true := by kernel_rfl
        exact (show Tryd.prog.wantsStandIn t = false by simpa using List.all_eq_true.1 hall t hm)⟩)
    (by kernel_rfl)
#print axioms wreckSaves_holds
end Go.Proofs.YtdkboibnokipaaaDoor
