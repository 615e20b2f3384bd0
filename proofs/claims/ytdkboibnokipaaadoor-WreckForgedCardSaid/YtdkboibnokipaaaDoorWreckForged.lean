/- A claim that is copied from the book is true, and the instrument is found by its number; with another number, maker, day of making, or mark, it is not, for the reason that is so, for any book, instrument and day; numbers choose what is forged. Asked of the input: nothing; of the package-level variables: what the card ties to the program's text. -/
import Derived.Test.YtdkboibnokipaaaDoorC7
set_option linter.unusedSimpArgs false
set_option linter.unusedVariables false
namespace Go.Proofs.YtdkboibnokipaaaDoor
open Go.RowKit Go.Pm Go.Ow
set_option maxRecDepth 100000
set_option linter.unusedVariables false
set_option maxHeartbeats 4000000

theorem wreckForged_law (xs : List TV) (h : argsOk Tryd.prog Tryd.f10.params.toList xs) : PCalls Tryd.prog 10 xs (.bool true) := by
  have h := (show argsOk Tryd.prog [39, 40, 40] xs from h)
  obtain ⟨_, r, rfl, h1, h⟩ := argsOk_cons h
  obtain ⟨_, r, rfl, h2, h⟩ := argsOk_cons h
  obtain ⟨_, r, rfl, h3, h⟩ := argsOk_cons h
  cases argsOk_nil h
  obtain ⟨l, hs, hL⟩ := bookArg h1
  obtain ⟨n0, n1, rfl, i0, i1⟩ := twoArg h2
  obtain ⟨m0, m1, rfl, j0, j1⟩ := twoArg h3
  exact WreckForged_c hs hL n0 n1 m0 m1
theorem wreckForged_lifted (os : Os) (started : os.Started) (H : Type) (enc : TypeId × Value → H) :
    ReturnsInHanded {} Tryd.checked os 10 .any (fun w args => (Rows.wreckForgedSpec.pre enc Tryd.prog Tryd.f10 [] false w args ∧ laidMetH Tryd.prog [("unicode/utf8.acceptRanges", Rows.laid_unicode_utf8_acceptRanges), ("octant/wreck.kinds", Rows.laid_octant_wreck_kinds), ("unicode/utf8.first", Rows.laid_unicode_utf8_first)] w) ∧ sizedMet enc Tryd.prog Tryd.f10 (OpenSpec.ofChange Rows.wreckForgedSpec) false w args) (Rows.wreckForgedSpec.post enc Tryd.prog Tryd.f10 false true false false) := by
  refine law_laid (C := Tryd.checked) (X := fun w _ => laidMetH Tryd.prog [("unicode/utf8.acceptRanges", Rows.laid_unicode_utf8_acceptRanges), ("octant/wreck.kinds", Rows.laid_octant_wreck_kinds), ("unicode/utf8.first", Rows.laid_unicode_utf8_first)] w) (fun _ _ _ hh h => h.of_heap hh) (fun _ _ h => wk_glob (.tail _ (.head _)) h) (by kernel_rfl) started (by kernel_rfl) Tryd.func10
    (ChangeSpec.witness_shaped (enc := enc) (C := Tryd.checked) (os := os) (X := fun w _ => laidMetH Tryd.prog [("unicode/utf8.acceptRanges", Rows.laid_unicode_utf8_acceptRanges), ("octant/wreck.kinds", Rows.laid_octant_wreck_kinds), ("unicode/utf8.first", Rows.laid_unicode_utf8_first)] w) false (wk_start os) #[.slice none 0 0, .agg #[.int .i64 0, .int .i64 0], .agg #[.int .i64 0, .int .i64 0]] 8 (wk_start_os os) (wk_shaped os _) (by kernel_rfl) (by kernel_rfl) (by kernel_rfl) (wk_met os _)) (by kernel_rfl) rfl rfl (by kernel_rfl) (by kernel_rfl) (by kernel_rfl) (fun ds h => ?_) wreckForged_law
  match ds, h with
  | [d1, d2, d3], _ => rfl
theorem wreckForged_said : Rows.WreckForgedSaid :=
  OpenClaim.holds_of_wide 10 Tryd.f10 rfl rfl rfl rfl rfl rfl rfl ⟨rfl, rfl, rfl, rfl, rfl⟩ rfl rfl rfl rfl rfl (by kernel_rfl) Tryd.func10 (by kernel_rfl)
    (of_decide_eq_true (by kernel_rfl)) (by unfold Func.isWrapper; first | (rw [if_pos (by decide +kernel)]; kernel_rfl) | (rw [if_neg (by decide +kernel)]; exact ⟨rfl, rfl⟩))
    (fun os started H enc _ => wreckForged_lifted os started H enc)
theorem wreckForged_holds : Rows.WreckForgedCardSaid :=
  Claim7.holds_tied_plain_at .later [] [.data, .funcs, .pinned] true (true, "d8a99f382aad03e2df2615e40ca88e7bf8c3dec40c01936899a828dc21c7ea28") true
    wreckForged_said (fun _ h => by cases h) (by kernel_rfl) (fun _ h => by cases h) wreckForged_row_tie rfl ⟨rfl, rfl⟩ (by kernel_rfl) rfl
    (fun f fn hf hfn => by
      obtain rfl : f = 10 := Option.some.inj ((show Tryd.prog.funcNamed "octant/octantlaw09.WreckForged" = some 10 by kernel_rfl).symm.trans hf) |>.symm
      obtain rfl : fn = Tryd.f10 := (Option.some.inj (Tryd.func10.symm.trans hfn)).symm
      exact ⟨by kernel_rfl, fun j t ht => by
        rw [Tryd.params10] at ht
        have hm : t ∈ [39, 40, 40] := by simpa using Array.mem_of_getElem? ht
        have hall : ([39, 40, 40].all fun u => !Tryd.prog.wantsStandIn u) = true := by kernel_rfl
        exact (show Tryd.prog.wantsStandIn t = false by simpa using List.all_eq_true.1 hall t hm)⟩)
    (by kernel_rfl)
#print axioms wreckForged_holds
end Go.Proofs.YtdkboibnokipaaaDoor
