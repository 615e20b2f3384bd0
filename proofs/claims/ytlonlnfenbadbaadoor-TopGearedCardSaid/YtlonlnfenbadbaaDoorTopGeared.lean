/- The screw that cuts a sextant's arc is geared by the wheels that the dividing head's train finds, for any stock and ratio. Asked of the input: nothing; of the package-level variable: what the card ties to the program's text. -/
import Derived.Test.YtlonlnfenbadbaaDoorC6
set_option linter.unusedSimpArgs false
set_option linter.unusedVariables false
namespace Go.Proofs.YtlonlnfenbadbaaDoor
open Go.RowKit Go.Pm Go.Oc
set_option maxRecDepth 100000
set_option linter.unusedVariables false
set_option maxHeartbeats 4000000

open Ix
theorem topGeared_law (xs : List TV) (h : argsOk Tryd.prog Tryd.f3.params.toList xs) : PCalls Tryd.prog 3 xs (.bool true) := by
  have h := (show argsOk Tryd.prog [22, 23] xs from h)
  obtain ⟨_, r, rfl, h1, h⟩ := argsOk_cons h
  obtain ⟨_, r, rfl, h2, h⟩ := argsOk_cons h
  cases argsOk_nil h
  obtain ⟨st, hs, ls, is⟩ := intsArg h1
  obtain ⟨p, q, rfl, ip, iq⟩ := twoArg h2
  exact TopGeared_c hs ls p q
theorem topGeared_lifted (os : Os) (started : os.Started) (H : Type) (enc : TypeId × Value → H) :
    ReturnsInHanded {} Tryd.checked os 3 .any (fun w args => (Rows.topGearedSpec.pre enc Tryd.prog Tryd.f3 [] false w args ∧ laidMetH Tryd.prog [("octant/index.noTrain", Rows.laid_octant_index_noTrain)] w) ∧ sizedMet enc Tryd.prog Tryd.f3 (OpenSpec.ofChange Rows.topGearedSpec) false w args) (Rows.topGearedSpec.post enc Tryd.prog Tryd.f3 false true false false) := by
  refine law_laid (C := Tryd.checked) (X := fun w _ => laidMetH Tryd.prog [("octant/index.noTrain", Rows.laid_octant_index_noTrain)] w) (fun _ _ _ hh h => h.of_heap hh) (fun _ _ h => ix_glob h) (by kernel_rfl) started (by kernel_rfl) Tryd.func3
    (ChangeSpec.witness_shaped (enc := enc) (C := Tryd.checked) (os := os) (X := fun w _ => laidMetH Tryd.prog [("octant/index.noTrain", Rows.laid_octant_index_noTrain)] w) false (World.doorLaid Tryd.prog 14 os) #[.slice none 0 0, .agg #[.int .i64 0, .int .i64 0]] 8 rfl (ix_shaped os _) (by kernel_rfl) (by kernel_rfl) (by kernel_rfl) (ix_met os _)) (by kernel_rfl) rfl rfl (by kernel_rfl) (by kernel_rfl) (by kernel_rfl) (fun ds h => ?_) topGeared_law
  match ds, h with
  | [d1, d2], _ => rfl
theorem topGeared_said : Rows.TopGearedSaid :=
  OpenClaim.holds_of_wide 3 Tryd.f3 rfl rfl rfl rfl rfl rfl rfl ⟨rfl, rfl, rfl, rfl, rfl⟩ rfl rfl rfl rfl rfl (by kernel_rfl) Tryd.func3 (by kernel_rfl)
    (of_decide_eq_true (by kernel_rfl)) (by unfold Func.isWrapper; first | (rw [if_pos (by decide +kernel)]; kernel_rfl) | (rw [if_neg (by decide +kernel)]; exact ⟨rfl, rfl⟩))
    (fun os started H enc _ => topGeared_lifted os started H enc)
theorem topGeared_holds : Rows.TopGearedCardSaid :=
  Claim7.holds_tied_plain_at .later [] [.data] true (true, "2db607075c7c2b29d6428a0a745bdf86b9f6f32180c7df910fd0ab812c26f267") true
    topGeared_said (fun _ h => by cases h) (by kernel_rfl) (fun _ h => by cases h) topGeared_row_tie rfl ⟨rfl, rfl⟩ (by kernel_rfl) rfl
    (fun f fn hf hfn => by
      obtain rfl : f = 3 := Option.some.inj ((show Tryd.prog.funcNamed "octant/octanttop.TopGeared" = some 3 by kernel_rfl).symm.trans hf) |>.symm
      obtain rfl : fn = Tryd.f3 := (Option.some.inj (Tryd.func3.symm.trans hfn)).symm
      exact ⟨by kernel_rfl, fun j t ht => by
        rw [Tryd.params3] at ht
        have hm : t ∈ [22, 23] := by simpa using Array.mem_of_getElem? ht
        have hall : ([22, 23].all fun u => !Tryd.prog.wantsStandIn u) = true := by kernel_rfl
        exact (show Tryd.prog.wantsStandIn t = false by simpa using List.all_eq_true.1 hall t hm)⟩)
    (by kernel_rfl)
#print axioms topGeared_holds
end Go.Proofs.YtlonlnfenbadbaaDoor
