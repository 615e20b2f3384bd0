/- What is said of single pages, texts, books and claims holds. Asked of the input: nothing; of the package-level variables: what the card ties to the program's text. -/
import Derived.Test.YtdkboibnokipaaaDoorC6
set_option linter.unusedSimpArgs false
set_option linter.unusedVariables false
namespace Go.Proofs.YtdkboibnokipaaaDoor
open Go.RowKit Go.Pm Go.Ow
set_option maxRecDepth 100000
set_option linter.unusedVariables false
set_option maxHeartbeats 4000000

theorem wreckKnown_law (xs : List TV) (h : argsOk Tryd.prog Tryd.f12.params.toList xs) : PCalls Tryd.prog 12 xs (.bool true) := by
  have h := (show argsOk Tryd.prog [] xs from h)
  cases argsOk_nil h
  exact WreckKnown_c
theorem wreckKnown_lifted (os : Os) (started : os.Started) (H : Type) (enc : TypeId × Value → H) :
    ReturnsInHanded {} Tryd.checked os 12 .any (fun w args => (Rows.wreckKnownSpec.pre enc Tryd.prog Tryd.f12 [] false w args ∧ laidMetH Tryd.prog [("unicode/utf8.acceptRanges", Rows.laid_unicode_utf8_acceptRanges), ("octant/wreck.kinds", Rows.laid_octant_wreck_kinds), ("unicode/utf8.first", Rows.laid_unicode_utf8_first)] w) ∧ sizedMet enc Tryd.prog Tryd.f12 (OpenSpec.ofChange Rows.wreckKnownSpec) false w args) (Rows.wreckKnownSpec.post enc Tryd.prog Tryd.f12 false true false false) := by
  refine law_laid (C := Tryd.checked) (X := fun w _ => laidMetH Tryd.prog [("unicode/utf8.acceptRanges", Rows.laid_unicode_utf8_acceptRanges), ("octant/wreck.kinds", Rows.laid_octant_wreck_kinds), ("unicode/utf8.first", Rows.laid_unicode_utf8_first)] w) (fun _ _ _ hh h => h.of_heap hh) (fun _ _ h => wk_glob (.tail _ (.head _)) h) (by kernel_rfl) started (by kernel_rfl) Tryd.func12
    (ChangeSpec.witness_shaped (enc := enc) (C := Tryd.checked) (os := os) (X := fun w _ => laidMetH Tryd.prog [("unicode/utf8.acceptRanges", Rows.laid_unicode_utf8_acceptRanges), ("octant/wreck.kinds", Rows.laid_octant_wreck_kinds), ("unicode/utf8.first", Rows.laid_unicode_utf8_first)] w) false (wk_start os) #[] 8 (wk_start_os os) (wk_shaped os _) (by kernel_rfl) (by kernel_rfl) (by kernel_rfl) (wk_met os _)) (by kernel_rfl) rfl rfl (by kernel_rfl) (by kernel_rfl) (by kernel_rfl) (fun ds h => ?_) wreckKnown_law
  match ds, h with
  | [], _ => rfl
theorem wreckKnown_said : Rows.WreckKnownSaid :=
  OpenClaim.holds_of_wide 12 Tryd.f12 rfl rfl rfl rfl rfl rfl rfl ⟨rfl, rfl, rfl, rfl, rfl⟩ rfl rfl rfl rfl rfl (by kernel_rfl) Tryd.func12 (by kernel_rfl)
    (of_decide_eq_true (by kernel_rfl)) (by unfold Func.isWrapper; first | (rw [if_pos (by decide +kernel)]; kernel_rfl) | (rw [if_neg (by decide +kernel)]; exact ⟨rfl, rfl⟩))
    (fun os started H enc _ => wreckKnown_lifted os started H enc)
theorem wreckKnown_holds : Rows.WreckKnownCardSaid :=
  Claim7.holds_tied_plain_at .later [] [.data, .funcs, .pinned] true (true, "d8a99f382aad03e2df2615e40ca88e7bf8c3dec40c01936899a828dc21c7ea28") true
    wreckKnown_said (fun _ h => by cases h) (by kernel_rfl) (fun _ h => by cases h) wreckKnown_row_tie rfl ⟨rfl, rfl⟩ (by kernel_rfl) rfl
    (fun f fn hf hfn => by
      obtain rfl : f = 12 := Option.some.inj ((show Tryd.prog.funcNamed "octant/octantlaw09.WreckKnown" = some 12 by kernel_rfl).symm.trans hf) |>.symm
      obtain rfl : fn = Tryd.f12 := (Option.some.inj (Tryd.func12.symm.trans hfn)).symm
      exact ⟨by kernel_rfl, fun j t ht => by
        rw [Tryd.params12] at ht
        have hm : t ∈ [] := by simpa using Array.mem_of_getElem? ht
        have hall : ([].all fun u => !Tryd.prog.wantsStandIn u) = true := by kernel_rfl
        exact (show Tryd.prog.wantsStandIn t = false by simpa using List.all_eq_true.1 hall t hm)⟩)
    (by kernel_rfl)
#print axioms wreckKnown_holds
end Go.Proofs.YtdkboibnokipaaaDoor
