/- No other compound plan moves fewer holes, nor as many, and comes before it, for any head and number of lines; numbers choose the other one. Asked of the input: nothing; of the package-level variable: what the card ties to the program's text. -/
import Derived.Test.YtnoahnbjdapieaaDoorC6
set_option linter.unusedSimpArgs false
set_option linter.unusedVariables false
namespace Go.Proofs.YtnoahnbjdapieaaDoor
open Go.RowKit Go.Pm Go.Oc
set_option maxRecDepth 100000
set_option linter.unusedVariables false
set_option maxHeartbeats 4000000

theorem indexFewest_law (xs : List TV) (h : argsOk Tryd.prog Tryd.f8.params.toList xs) : PCalls Tryd.prog 8 xs (.bool true) := by
  have h := (show argsOk Tryd.prog [24, 3, 60] xs from h)
  obtain ⟨_, r, rfl, h1, h⟩ := argsOk_cons h
  obtain ⟨_, r, rfl, h2, h⟩ := argsOk_cons h
  obtain ⟨_, r, rfl, h3, h⟩ := argsOk_cons h
  cases argsOk_nil h
  obtain ⟨t, l, s, rfl, hl, ll, it, il⟩ := headArg h1
  obtain ⟨n, rfl, i_n⟩ := intArg h2
  obtain ⟨m0, m1, m2, rfl, j0, j1, j2⟩ := threeArg h3
  exact IndexFewest_c t hl ll n m0 m1 m2
theorem indexFewest_lifted (os : Os) (started : os.Started) (H : Type) (enc : TypeId × Value → H) :
    ReturnsInHanded {} Tryd.checked os 8 .any (fun w args => (Rows.indexFewestSpec.pre enc Tryd.prog Tryd.f8 [] false w args ∧ laidMetH Tryd.prog [("octant/index.noTrain", Rows.laid_octant_index_noTrain)] w) ∧ sizedMet enc Tryd.prog Tryd.f8 (OpenSpec.ofChange Rows.indexFewestSpec) false w args) (Rows.indexFewestSpec.post enc Tryd.prog Tryd.f8 false true false false) := by
  refine law_laid (C := Tryd.checked) (X := fun w _ => laidMetH Tryd.prog [("octant/index.noTrain", Rows.laid_octant_index_noTrain)] w) (fun _ _ _ hh h => h.of_heap hh) (fun _ _ h => ix_glob h) (by kernel_rfl) started (by kernel_rfl) Tryd.func8
    (ChangeSpec.witness_shaped (enc := enc) (C := Tryd.checked) (os := os) (X := fun w _ => laidMetH Tryd.prog [("octant/index.noTrain", Rows.laid_octant_index_noTrain)] w) false (World.doorLaid Tryd.prog 14 os) #[.agg #[.int .i64 0, .slice none 0 0], .int .i64 0, .agg #[.int .i64 0, .int .i64 0, .int .i64 0]] 8 rfl (ix_shaped os _) (by kernel_rfl) (by kernel_rfl) (by kernel_rfl) (ix_met os _)) (by kernel_rfl) rfl rfl (by kernel_rfl) (by kernel_rfl) (by kernel_rfl) (fun ds h => ?_) indexFewest_law
  match ds, h with
  | [d1, d2, d3], _ => rfl
theorem indexFewest_said : Rows.IndexFewestSaid :=
  OpenClaim.holds_of_wide 8 Tryd.f8 rfl rfl rfl rfl rfl rfl rfl ⟨rfl, rfl, rfl, rfl, rfl⟩ rfl rfl rfl rfl rfl (by kernel_rfl) Tryd.func8 (by kernel_rfl)
    (of_decide_eq_true (by kernel_rfl)) (by unfold Func.isWrapper; first | (rw [if_pos (by decide +kernel)]; kernel_rfl) | (rw [if_neg (by decide +kernel)]; exact ⟨rfl, rfl⟩))
    (fun os started H enc _ => indexFewest_lifted os started H enc)
theorem indexFewest_holds : Rows.IndexFewestCardSaid :=
  Claim7.holds_tied_plain_at .later [] [.data] true (true, "af967309e8f4045ff6fc3fc551361c98788d609ceb85592532c70fd8c6a8c721") false
    indexFewest_said (fun _ h => by cases h) (by kernel_rfl) (fun _ h => by cases h) indexFewest_row_tie rfl ⟨rfl, rfl⟩ (by kernel_rfl) rfl
    (fun f fn hf hfn => by
      obtain rfl : f = 8 := Option.some.inj ((show Tryd.prog.funcNamed "octant/octantlaw01.IndexFewest" = some 8 by kernel_rfl).symm.trans hf) |>.symm
      obtain rfl : fn = Tryd.f8 := (Option.some.inj (Tryd.func8.symm.trans hfn)).symm
      exact ⟨by kernel_rfl, fun j t ht => by
        rw [Tryd.params8] at ht
        have hm : t ∈ [24, 3, 60] := by simpa using Array.mem_of_getElem? ht
        have hall : ([24, 3, 60].all fun u => !Tryd.prog.wantsStandIn u) = true := by kernel_rfl
        exact (show Tryd.prog.wantsStandIn t = false by simpa using List.all_eq_true.1 hall t hm)⟩)
    (by kernel_rfl)
#print axioms indexFewest_holds
end Go.Proofs.YtnoahnbjdapieaaDoor
