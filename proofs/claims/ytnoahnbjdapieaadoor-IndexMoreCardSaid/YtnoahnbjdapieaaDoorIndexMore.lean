/- With one more circle there are no fewer plans, no compound plan is worse, and the best circle is not worse, for any head, circle and number of lines. Asked of the input: nothing; of the package-level variable: what the card ties to the program's text. -/
import Derived.Test.YtnoahnbjdapieaaDoorC6
set_option linter.unusedSimpArgs false
set_option linter.unusedVariables false
namespace Go.Proofs.YtnoahnbjdapieaaDoor
open Go.RowKit Go.Pm Go.Oc
set_option maxRecDepth 100000
set_option linter.unusedVariables false
set_option maxHeartbeats 4000000

theorem indexMore_law (xs : List TV) (h : argsOk Tryd.prog Tryd.f10.params.toList xs) : PCalls Tryd.prog 10 xs (.bool true) := by
  have h := (show argsOk Tryd.prog [24, 3, 3] xs from h)
  obtain ⟨_, r, rfl, h1, h⟩ := argsOk_cons h
  obtain ⟨_, r, rfl, h2, h⟩ := argsOk_cons h
  obtain ⟨_, r, rfl, h3, h⟩ := argsOk_cons h
  cases argsOk_nil h
  obtain ⟨t, l, s, rfl, hl, ll, it, il⟩ := headArg h1
  obtain ⟨c, rfl, i_c⟩ := intArg h2
  obtain ⟨n, rfl, i_n⟩ := intArg h3
  exact IndexMore_c t hl ll c n
theorem indexMore_lifted (os : Os) (started : os.Started) (H : Type) (enc : TypeId × Value → H) :
    ReturnsInHanded {} Tryd.checked os 10 .any (fun w args => (Rows.indexMoreSpec.pre enc Tryd.prog Tryd.f10 [] false w args ∧ laidMetH Tryd.prog [("octant/index.noTrain", Rows.laid_octant_index_noTrain)] w) ∧ sizedMet enc Tryd.prog Tryd.f10 (OpenSpec.ofChange Rows.indexMoreSpec) false w args) (Rows.indexMoreSpec.post enc Tryd.prog Tryd.f10 false true false false) := by
  refine law_laid (C := Tryd.checked) (X := fun w _ => laidMetH Tryd.prog [("octant/index.noTrain", Rows.laid_octant_index_noTrain)] w) (fun _ _ _ hh h => h.of_heap hh) (fun _ _ h => ix_glob h) (by kernel_rfl) started (by kernel_rfl) Tryd.func10
    (ChangeSpec.witness_shaped (enc := enc) (C := Tryd.checked) (os := os) (X := fun w _ => laidMetH Tryd.prog [("octant/index.noTrain", Rows.laid_octant_index_noTrain)] w) false (World.doorLaid Tryd.prog 14 os) #[.agg #[.int .i64 0, .slice none 0 0], .int .i64 0, .int .i64 0] 8 rfl (ix_shaped os _) (by kernel_rfl) (by kernel_rfl) (by kernel_rfl) (ix_met os _)) (by kernel_rfl) rfl rfl (by kernel_rfl) (by kernel_rfl) (by kernel_rfl) (fun ds h => ?_) indexMore_law
  match ds, h with
  | [d1, d2, d3], _ => rfl
theorem indexMore_said : Rows.IndexMoreSaid :=
  OpenClaim.holds_of_wide 10 Tryd.f10 rfl rfl rfl rfl rfl rfl rfl ⟨rfl, rfl, rfl, rfl, rfl⟩ rfl rfl rfl rfl rfl (by kernel_rfl) Tryd.func10 (by kernel_rfl)
    (of_decide_eq_true (by kernel_rfl)) (by unfold Func.isWrapper; first | (rw [if_pos (by decide +kernel)]; kernel_rfl) | (rw [if_neg (by decide +kernel)]; exact ⟨rfl, rfl⟩))
    (fun os started H enc _ => indexMore_lifted os started H enc)
theorem indexMore_holds : Rows.IndexMoreCardSaid :=
  Claim7.holds_tied_plain_at .later [] [.data] true (true, "af967309e8f4045ff6fc3fc551361c98788d609ceb85592532c70fd8c6a8c721") false
    indexMore_said (fun _ h => by cases h) (by kernel_rfl) (fun _ h => by cases h) indexMore_row_tie rfl ⟨rfl, rfl⟩ (by kernel_rfl) rfl
    (fun f fn hf hfn => by
      obtain rfl : f = 10 := Option.some.inj ((show Tryd.prog.funcNamed "octant/octantlaw01.IndexMore" = some 10 by kernel_rfl).symm.trans hf) |>.symm
      obtain rfl : fn = Tryd.f10 := (Option.some.inj (Tryd.func10.symm.trans hfn)).symm
      exact ⟨by kernel_rfl, fun j t ht => by
        rw [Tryd.params10] at ht
        have hm : t ∈ [24, 3, 3] := by simpa using Array.mem_of_getElem? ht
        have hall : ([24, 3, 3].all fun u => !Tryd.prog.wantsStandIn u) = true := by kernel_rfl
        exact (show Tryd.prog.wantsStandIn t = false by simpa using List.all_eq_true.1 hall t hm)⟩)
    (by kernel_rfl)
#print axioms indexMore_holds
end Go.Proofs.YtnoahnbjdapieaaDoor
