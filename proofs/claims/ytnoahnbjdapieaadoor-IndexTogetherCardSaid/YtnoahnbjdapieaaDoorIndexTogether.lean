/- While the work turns once, the crank by its moves and the plate by its wheels turn together by as many turns as the wheel has teeth, for any head, stock and number of lines. Asked of the input: nothing; of the package-level variable: what the card ties to the program's text. -/
import Derived.Test.YtnoahnbjdapieaaDoorC6
set_option linter.unusedSimpArgs false
set_option linter.unusedVariables false
namespace Go.Proofs.YtnoahnbjdapieaaDoor
open Go.RowKit Go.Pm Go.Oc
set_option maxRecDepth 100000
set_option linter.unusedVariables false
set_option maxHeartbeats 4000000

theorem indexTogether_law (xs : List TV) (h : argsOk Tryd.prog Tryd.f12.params.toList xs) : PCalls Tryd.prog 12 xs (.bool true) := by
  have h := (show argsOk Tryd.prog [24, 22, 3] xs from h)
  obtain ⟨_, r, rfl, h1, h⟩ := argsOk_cons h
  obtain ⟨_, r, rfl, h2, h⟩ := argsOk_cons h
  obtain ⟨_, r, rfl, h3, h⟩ := argsOk_cons h
  cases argsOk_nil h
  obtain ⟨t, l, s, rfl, hl, ll, it, il⟩ := headArg h1
  obtain ⟨st, hs, ls, is⟩ := intsArg h2
  obtain ⟨n, rfl, i_n⟩ := intArg h3
  exact IndexTogether_c t hl ll hs ls n
theorem indexTogether_lifted (os : Os) (started : os.Started) (H : Type) (enc : TypeId × Value → H) :
    ReturnsInHanded {} Tryd.checked os 12 .any (fun w args => (Rows.indexTogetherSpec.pre enc Tryd.prog Tryd.f12 [] false w args ∧ laidMetH Tryd.prog [("octant/index.noTrain", Rows.laid_octant_index_noTrain)] w) ∧ sizedMet enc Tryd.prog Tryd.f12 (OpenSpec.ofChange Rows.indexTogetherSpec) false w args) (Rows.indexTogetherSpec.post enc Tryd.prog Tryd.f12 false true false false) := by
  refine law_laid (C := Tryd.checked) (X := fun w _ => laidMetH Tryd.prog [("octant/index.noTrain", Rows.laid_octant_index_noTrain)] w) (fun _ _ _ hh h => h.of_heap hh) (fun _ _ h => ix_glob h) (by kernel_rfl) started (by kernel_rfl) Tryd.func12
    (ChangeSpec.witness_shaped (enc := enc) (C := Tryd.checked) (os := os) (X := fun w _ => laidMetH Tryd.prog [("octant/index.noTrain", Rows.laid_octant_index_noTrain)] w) false (World.doorLaid Tryd.prog 14 os) #[.agg #[.int .i64 0, .slice none 0 0], .slice none 0 0, .int .i64 0] 8 rfl (ix_shaped os _) (by kernel_rfl) (by kernel_rfl) (by kernel_rfl) (ix_met os _)) (by kernel_rfl) rfl rfl (by kernel_rfl) (by kernel_rfl) (by kernel_rfl) (fun ds h => ?_) indexTogether_law
  match ds, h with
  | [d1, d2, d3], _ => rfl
theorem indexTogether_said : Rows.IndexTogetherSaid :=
  OpenClaim.holds_of_wide 12 Tryd.f12 rfl rfl rfl rfl rfl rfl rfl ⟨rfl, rfl, rfl, rfl, rfl⟩ rfl rfl rfl rfl rfl (by kernel_rfl) Tryd.func12 (by kernel_rfl)
    (of_decide_eq_true (by kernel_rfl)) (by unfold Func.isWrapper; first | (rw [if_pos (by decide +kernel)]; kernel_rfl) | (rw [if_neg (by decide +kernel)]; exact ⟨rfl, rfl⟩))
    (fun os started H enc _ => indexTogether_lifted os started H enc)
theorem indexTogether_holds : Rows.IndexTogetherCardSaid :=
  Claim7.holds_tied_plain_at .later [] [.data] true (true, "af967309e8f4045ff6fc3fc551361c98788d609ceb85592532c70fd8c6a8c721") false
    indexTogether_said (fun _ h => by cases h) (by kernel_rfl) (fun _ h => by cases h) indexTogether_row_tie rfl ⟨rfl, rfl⟩ (by kernel_rfl) rfl
    (fun f fn hf hfn => by
      obtain rfl : f = 12 := Option.some.inj ((show Tryd.prog.funcNamed "octant/octantlaw01.IndexTogether" = some 12 by kernel_rfl).symm.trans hf) |>.symm
      obtain rfl : fn = Tryd.f12 := (Option.some.inj (Tryd.func12.symm.trans hfn)).symm
      exact ⟨by kernel_rfl, fun j t ht => by
        rw [Tryd.params12] at ht
        have hm : t ∈ [24, 22, 3] := by simpa using Array.mem_of_getElem? ht
        have hall : ([24, 22, 3].all fun u => !Tryd.prog.wantsStandIn u) = true := by kernel_rfl
        exact (show Tryd.prog.wantsStandIn t = false by simpa using List.all_eq_true.1 hall t hm)⟩)
    (by kernel_rfl)
#print axioms indexTogether_holds
end Go.Proofs.YtnoahnbjdapieaaDoor
