/- Level: what the laws call: the program's functions, and the examples. -/
import Derived.Test.YtgofljmnlfnlnaaLe
import Derived.Test.YtgofljmnlfnlnaaLf
import Derived.Test.YtgofljmnlfnlnaaLi
namespace Go.Oc
open Go Go.Pm
def unI : List TV → Option (List Int)
  | [] => some []
  | .int .i64 a :: r => (unI r).map (a :: ·)
  | _ => none
theorem unI_eq : ∀ l : List Int, unI (ints l) = some l
  | [] => rfl
  | x :: l => by have := unI_eq l; unfold ints at this ⊢; simp [unI, this]
theorem unI_some : ∀ {cs : List TV} {l : List Int}, unI cs = some l → cs = l.flatMap ic := by
  intro cs
  induction cs using unI.induct with
  | case1 => intro l h; simp [unI] at h; subst h; rfl
  | case2 a r ih =>
    intro l h
    simp only [unI, Option.map_eq_some_iff] at h
    obtain ⟨l', h1, rfl⟩ := h
    rw [ih h1]; rfl
  | case3 r h1 h2 =>
    intro l h
    unfold unI at h
    split at h
    · exact absurd rfl h1
    · exact absurd rfl (h2 _ _)
    · cases h
attribute [go_sem] unI_eq
def exV : Vial := ⟨40, 16, 20, 50, 52, 38, 42, 1⟩
def exO : Vial := ⟨60, 20, 24, 20, 20, 58, 62, 1⟩
def exR : List Rd := [⟨14, 32, false⟩, ⟨9, 27, true⟩, ⟨5, 23, true⟩]
end Go.Oc
namespace Go.Proofs.Ytgofljmnlfnlnaa
open Go.RowKit Go.Pm Go.Oc
set_option maxRecDepth 100000
set_option linter.unusedVariables false
set_option maxHeartbeats 4000000

theorem Same_d {a b : List Int} {s t : TV} (hs : IsRow ic s a) (ht : IsRow ic t b) (ha : a.length ≤ 9223372036854775806) : PCalls Try.prog 25 [s, t] (.bool (decide (a = b))) := by
  rcases hs with ⟨rfl, rfl⟩ | ⟨fa, rfl⟩ <;> rcases ht with ⟨rfl, rfl⟩ | ⟨fb, rfl⟩
  · refine pcalls_by Try.mixes noSpec_ok (fn := Try.f25) Try.func25 rfl (by kernel_rfl) (by show 2 ≤ _; decide) ?_
    simp (decide := true) (maxSteps := 4000000) only [go_sem, Nat.reduceAdd, Nat.reduceSub, Nat.reduceMul, Nat.reduceDiv, Nat.reduceMod, Nat.reduceLT, Nat.reduceLeDiff, Nat.reduceEqDiff, Nat.reduceBEq, Nat.reduceBNe, Nat.reduceGT, Int.reduceAdd, Int.reduceSub, Int.reduceMul, Int.reduceNeg, Int.reduceLT, Int.reduceLE, Int.reduceEq, Int.reduceNe, Int.reduceBEq, Int.reduceBNe, Int.reduceToNat, Int.reduceGT, Int.reduceGE, ↓reduceIte, decide_true, decide_false, Try.f25]
    refine pwpC_loopU (A := Unit) [0, 1] (fun _ => [(5, .t (.int .i64 0))]) (fun _ => []) (fun _ => 0) () (by decide) (fun _ => by rfl) ?_ fun Q1 hQ1 k I1 hI1 => ?_
    · simp (decide := true) (maxSteps := 4000000) only [go_sem, Nat.reduceAdd, Nat.reduceSub, Nat.reduceMul, Nat.reduceDiv, Nat.reduceMod, Nat.reduceLT, Nat.reduceLeDiff, Nat.reduceEqDiff, Nat.reduceBEq, Nat.reduceBNe, Nat.reduceGT, Int.reduceAdd, Int.reduceSub, Int.reduceMul, Int.reduceNeg, Int.reduceLT, Int.reduceLE, Int.reduceEq, Int.reduceNe, Int.reduceBEq, Int.reduceBNe, Int.reduceToNat, Int.reduceGT, Int.reduceGE, ↓reduceIte, decide_true, decide_false]
    · simp (decide := true) (maxSteps := 4000000) only [go_sem, Nat.reduceAdd, Nat.reduceSub, Nat.reduceMul, Nat.reduceDiv, Nat.reduceMod, Nat.reduceLT, Nat.reduceLeDiff, Nat.reduceEqDiff, Nat.reduceBEq, Nat.reduceBNe, Nat.reduceGT, Int.reduceAdd, Int.reduceSub, Int.reduceMul, Int.reduceNeg, Int.reduceLT, Int.reduceLE, Int.reduceEq, Int.reduceNe, Int.reduceBEq, Int.reduceBNe, Int.reduceToNat, Int.reduceGT, Int.reduceGE, ↓reduceIte, decide_true, decide_false]
      first | done | (refine hQ1 _ _ ?_; simp (decide := true) (maxSteps := 4000000) only [go_sem, Nat.reduceAdd, Nat.reduceSub, Nat.reduceMul, Nat.reduceDiv, Nat.reduceMod, Nat.reduceLT, Nat.reduceLeDiff, Nat.reduceEqDiff, Nat.reduceBEq, Nat.reduceBNe, Nat.reduceGT, Int.reduceAdd, Int.reduceSub, Int.reduceMul, Int.reduceNeg, Int.reduceLT, Int.reduceLE, Int.reduceEq, Int.reduceNe, Int.reduceBEq, Int.reduceBNe, Int.reduceToNat, Int.reduceGT, Int.reduceGE, ↓reduceIte, decide_true, decide_false])
  · by_cases hb : b = []
    · subst hb
      refine pcalls_by Try.mixes noSpec_ok (fn := Try.f25) Try.func25 rfl (by kernel_rfl) (by show 2 ≤ _; decide) ?_
      simp (decide := true) (maxSteps := 4000000) only [go_sem, Nat.reduceAdd, Nat.reduceSub, Nat.reduceMul, Nat.reduceDiv, Nat.reduceMod, Nat.reduceLT, Nat.reduceLeDiff, Nat.reduceEqDiff, Nat.reduceBEq, Nat.reduceBNe, Nat.reduceGT, Int.reduceAdd, Int.reduceSub, Int.reduceMul, Int.reduceNeg, Int.reduceLT, Int.reduceLE, Int.reduceEq, Int.reduceNe, Int.reduceBEq, Int.reduceBNe, Int.reduceToNat, Int.reduceGT, Int.reduceGE, ↓reduceIte, decide_true, decide_false, eq_self, Nat.mul_one, Nat.zero_mul, Nat.one_mul, Int.le_refl, Nat.le_refl, Int.cast_ofNat_Int, Try.f25, List.length_nil, Int.cast_ofNat_Int, bne_self_eq_false]
      refine pwpC_loopU (A := Unit) [0, 1] (fun _ => [(5, .t (.int .i64 0))]) (fun _ => []) (fun _ => 0) () (by decide) (fun _ => by rfl) ?_ fun Q1 hQ1 k I1 hI1 => ?_
      · simp (decide := true) (maxSteps := 4000000) only [go_sem, Nat.reduceAdd, Nat.reduceSub, Nat.reduceMul, Nat.reduceDiv, Nat.reduceMod, Nat.reduceLT, Nat.reduceLeDiff, Nat.reduceEqDiff, Nat.reduceBEq, Nat.reduceBNe, Nat.reduceGT, Int.reduceAdd, Int.reduceSub, Int.reduceMul, Int.reduceNeg, Int.reduceLT, Int.reduceLE, Int.reduceEq, Int.reduceNe, Int.reduceBEq, Int.reduceBNe, Int.reduceToNat, Int.reduceGT, Int.reduceGE, ↓reduceIte, decide_true, decide_false]
      · simp (decide := true) (maxSteps := 4000000) only [go_sem, Nat.reduceAdd, Nat.reduceSub, Nat.reduceMul, Nat.reduceDiv, Nat.reduceMod, Nat.reduceLT, Nat.reduceLeDiff, Nat.reduceEqDiff, Nat.reduceBEq, Nat.reduceBNe, Nat.reduceGT, Int.reduceAdd, Int.reduceSub, Int.reduceMul, Int.reduceNeg, Int.reduceLT, Int.reduceLE, Int.reduceEq, Int.reduceNe, Int.reduceBEq, Int.reduceBNe, Int.reduceToNat, Int.reduceGT, Int.reduceGE, ↓reduceIte, decide_true, decide_false]
        first | done | (refine hQ1 _ _ ?_; simp (decide := true) (maxSteps := 4000000) only [go_sem, Nat.reduceAdd, Nat.reduceSub, Nat.reduceMul, Nat.reduceDiv, Nat.reduceMod, Nat.reduceLT, Nat.reduceLeDiff, Nat.reduceEqDiff, Nat.reduceBEq, Nat.reduceBNe, Nat.reduceGT, Int.reduceAdd, Int.reduceSub, Int.reduceMul, Int.reduceNeg, Int.reduceLT, Int.reduceLE, Int.reduceEq, Int.reduceNe, Int.reduceBEq, Int.reduceBNe, Int.reduceToNat, Int.reduceGT, Int.reduceGE, ↓reduceIte, decide_true, decide_false])
    · have h0 : b.length ≠ 0 := by simpa using hb
      have h1 : ((0 : Int) != b.length) = true := by simp; omega
      have h2 : decide ([] = b) = false := by simp; exact hb
      refine pcalls_by Try.mixes noSpec_ok (fn := Try.f25) Try.func25 rfl (by kernel_rfl) (by show 2 ≤ _; decide) ?_
      simp (decide := true) (maxSteps := 4000000) only [go_sem, Nat.reduceAdd, Nat.reduceSub, Nat.reduceMul, Nat.reduceDiv, Nat.reduceMod, Nat.reduceLT, Nat.reduceLeDiff, Nat.reduceEqDiff, Nat.reduceBEq, Nat.reduceBNe, Nat.reduceGT, Int.reduceAdd, Int.reduceSub, Int.reduceMul, Int.reduceNeg, Int.reduceLT, Int.reduceLE, Int.reduceEq, Int.reduceNe, Int.reduceBEq, Int.reduceBNe, Int.reduceToNat, Int.reduceGT, Int.reduceGE, ↓reduceIte, decide_true, decide_false, Try.f25, h1, h2]
  · by_cases hb : a = []
    · subst hb
      refine pcalls_by Try.mixes noSpec_ok (fn := Try.f25) Try.func25 rfl (by kernel_rfl) (by show 2 ≤ _; decide) ?_
      simp (decide := true) (maxSteps := 4000000) only [go_sem, Nat.reduceAdd, Nat.reduceSub, Nat.reduceMul, Nat.reduceDiv, Nat.reduceMod, Nat.reduceLT, Nat.reduceLeDiff, Nat.reduceEqDiff, Nat.reduceBEq, Nat.reduceBNe, Nat.reduceGT, Int.reduceAdd, Int.reduceSub, Int.reduceMul, Int.reduceNeg, Int.reduceLT, Int.reduceLE, Int.reduceEq, Int.reduceNe, Int.reduceBEq, Int.reduceBNe, Int.reduceToNat, Int.reduceGT, Int.reduceGE, ↓reduceIte, decide_true, decide_false, eq_self, Nat.mul_one, Nat.zero_mul, Nat.one_mul, Int.le_refl, Nat.le_refl, Int.cast_ofNat_Int, Try.f25, List.length_nil, Int.cast_ofNat_Int, bne_self_eq_false]
      refine pwpC_loopU (A := Unit) [0, 1] (fun _ => [(5, .t (.int .i64 0))]) (fun _ => []) (fun _ => 0) () (by decide) (fun _ => by rfl) ?_ fun Q1 hQ1 k I1 hI1 => ?_
      · simp (decide := true) (maxSteps := 4000000) only [go_sem, Nat.reduceAdd, Nat.reduceSub, Nat.reduceMul, Nat.reduceDiv, Nat.reduceMod, Nat.reduceLT, Nat.reduceLeDiff, Nat.reduceEqDiff, Nat.reduceBEq, Nat.reduceBNe, Nat.reduceGT, Int.reduceAdd, Int.reduceSub, Int.reduceMul, Int.reduceNeg, Int.reduceLT, Int.reduceLE, Int.reduceEq, Int.reduceNe, Int.reduceBEq, Int.reduceBNe, Int.reduceToNat, Int.reduceGT, Int.reduceGE, ↓reduceIte, decide_true, decide_false]
      · simp (decide := true) (maxSteps := 4000000) only [go_sem, Nat.reduceAdd, Nat.reduceSub, Nat.reduceMul, Nat.reduceDiv, Nat.reduceMod, Nat.reduceLT, Nat.reduceLeDiff, Nat.reduceEqDiff, Nat.reduceBEq, Nat.reduceBNe, Nat.reduceGT, Int.reduceAdd, Int.reduceSub, Int.reduceMul, Int.reduceNeg, Int.reduceLT, Int.reduceLE, Int.reduceEq, Int.reduceNe, Int.reduceBEq, Int.reduceBNe, Int.reduceToNat, Int.reduceGT, Int.reduceGE, ↓reduceIte, decide_true, decide_false]
        first | done | (refine hQ1 _ _ ?_; simp (decide := true) (maxSteps := 4000000) only [go_sem, Nat.reduceAdd, Nat.reduceSub, Nat.reduceMul, Nat.reduceDiv, Nat.reduceMod, Nat.reduceLT, Nat.reduceLeDiff, Nat.reduceEqDiff, Nat.reduceBEq, Nat.reduceBNe, Nat.reduceGT, Int.reduceAdd, Int.reduceSub, Int.reduceMul, Int.reduceNeg, Int.reduceLT, Int.reduceLE, Int.reduceEq, Int.reduceNe, Int.reduceBEq, Int.reduceBNe, Int.reduceToNat, Int.reduceGT, Int.reduceGE, ↓reduceIte, decide_true, decide_false])
    · have h0 : a.length ≠ 0 := by simpa using hb
      have h1 : ((a.length : Int) != 0) = true := by simp; omega
      have h2 : decide (a = []) = false := by simpa using hb
      refine pcalls_by Try.mixes noSpec_ok (fn := Try.f25) Try.func25 rfl (by kernel_rfl) (by show 2 ≤ _; decide) ?_
      simp (decide := true) (maxSteps := 4000000) only [go_sem, Nat.reduceAdd, Nat.reduceSub, Nat.reduceMul, Nat.reduceDiv, Nat.reduceMod, Nat.reduceLT, Nat.reduceLeDiff, Nat.reduceEqDiff, Nat.reduceBEq, Nat.reduceBNe, Nat.reduceGT, Int.reduceAdd, Int.reduceSub, Int.reduceMul, Int.reduceNeg, Int.reduceLT, Int.reduceLE, Int.reduceEq, Int.reduceNe, Int.reduceBEq, Int.reduceBNe, Int.reduceToNat, Int.reduceGT, Int.reduceGE, ↓reduceIte, decide_true, decide_false, Try.f25, h1, h2]
  · rw [ic_ints, ic_ints]; exact Same_c a b fa fb ha
noncomputable def gSame : List TV → Option TV
  | [s, t] => match rowL unI s, rowL unI t with
    | some a, some b => if a.length ≤ 9223372036854775806 then some (.bool (decide (a = b))) else none
    | _, _ => none
  | _ => none
theorem gSame_ok : ∀ xs r, gSame xs = some r → PCalls Try.prog 25 xs r := by
  intro xs r h
  unfold gSame at h
  split at h
  · split at h
    · rename_i a b ha hb
      split at h
      · rename_i hc; cases h; exact Same_d (rowL_some (un := unI) rfl (@unI_some) ha) (rowL_some (un := unI) rfl (@unI_some) hb) hc
      · cases h
    · cases h
  · cases h
attribute [go_sem] gSame

noncomputable def glTilt : List TV → Option TV
  | [.agg [.int .i64 m, .int .i64 a, .int .i64 b, .int .i64 c, .int .i64 d, .int .i64 e, .int .i64 f, .int .i64 g], s] => match rowL unRds s with
    | some l => if l.length ≤ 5864062014806 then some ((tiltR ⟨m, a, b, c, d, e, f, g⟩ l).t) else none
    | none => none
  | _ => none
theorem glTilt_ok : ∀ xs r, glTilt xs = some r → PCalls Try.prog 20 xs r := by
  intro xs r h
  unfold glTilt at h
  split at h
  · split at h
    · rename_i l hl
      have hl := rowL_some (un := unRds) rfl (@unRds_some) hl
      split at h
      · rename_i hc; cases h; exact lTilt_c ⟨_, _, _, _, _, _, _, _⟩ hl hc
      · cases h
    · cases h
  · cases h
attribute [go_sem] glTilt
noncomputable def glCan : List TV → Option TV
  | [.agg [.int .i64 m, .int .i64 a, .int .i64 b, .int .i64 c, .int .i64 d, .int .i64 e, .int .i64 f, .int .i64 g], s, .agg [.int .i64 tv, .int .i64 tz, .int .i64 tt]] => match rowL unRds s with
    | some l => if l.length ≤ 5864062014806 then some (.tup [.bool (canP ⟨m, a, b, c, d, e, f, g⟩ l tv tz tt).1, .int .i64 (canP ⟨m, a, b, c, d, e, f, g⟩ l tv tz tt).2]) else none
    | none => none
  | _ => none
theorem glCan_ok : ∀ xs r, glCan xs = some r → PCalls Try.prog 16 xs r := by
  intro xs r h
  unfold glCan at h
  split at h
  · split at h
    · rename_i l hl
      have hl := rowL_some (un := unRds) rfl (@unRds_some) hl
      split at h
      · rename_i hc; cases h; exact lCan_c ⟨_, _, _, _, _, _, _, _⟩ hl hc _ _ _
      · cases h
    · cases h
  · cases h
attribute [go_sem] glCan
noncomputable def glNext : List TV → Option TV
  | [.agg [.int .i64 m, .int .i64 a, .int .i64 b, .int .i64 c, .int .i64 d, .int .i64 e, .int .i64 f, .int .i64 g], s] => match rowL unRds s with
    | some l => if l.length ≤ 5864062014806 then some (.tup [.bool (nextP ⟨m, a, b, c, d, e, f, g⟩ l).1, .int .i64 (nextP ⟨m, a, b, c, d, e, f, g⟩ l).2.1, .int .i64 (nextP ⟨m, a, b, c, d, e, f, g⟩ l).2.2]) else none
    | none => none
  | _ => none
theorem glNext_ok : ∀ xs r, glNext xs = some r → PCalls Try.prog 26 xs r := by
  intro xs r h
  unfold glNext at h
  split at h
  · split at h
    · rename_i l hl
      have hl := rowL_some (un := unRds) rfl (@unRds_some) hl
      split at h
      · rename_i hc; cases h; exact lNext_c ⟨_, _, _, _, _, _, _, _⟩ hl hc
      · cases h
    · cases h
  · cases h
attribute [go_sem] glNext
noncomputable def glFalse : List TV → Option TV
  | [.agg [.int .i64 m, .int .i64 a, .int .i64 b, .int .i64 c, .int .i64 d, .int .i64 e, .int .i64 f, .int .i64 g], s] => match rowL unRds s with
    | some l => if l.length ≤ 5864062014806 then some (.tup [(falseP ⟨m, a, b, c, d, e, f, g⟩ l).1, .int .i64 (falseP ⟨m, a, b, c, d, e, f, g⟩ l).2]) else none
    | none => none
  | _ => none
theorem glFalse_ok : ∀ xs r, glFalse xs = some r → PCalls Try.prog 23 xs r := by
  intro xs r h
  unfold glFalse at h
  split at h
  · split at h
    · rename_i l hl
      have hl := rowL_some (un := unRds) rfl (@unRds_some) hl
      split at h
      · rename_i hc; cases h; exact lFalse_c ⟨_, _, _, _, _, _, _, _⟩ hl hc
      · cases h
    · cases h
  · cases h
attribute [go_sem] glFalse
noncomputable def glClicks : List TV → Option TV
  | [.agg [.int .i64 a, .int .i64 b], .int .i64 w, .int .i64 c] => some (.tup [.int .i64 (clicksP ⟨a, b⟩ w c).1, .int .i64 (clicksP ⟨a, b⟩ w c).2])
  | _ => none
theorem glClicks_ok : ∀ xs r, glClicks xs = some r → PCalls Try.prog 28 xs r := by
  intro xs r h
  unfold glClicks at h
  split at h
  · cases h; exact lClicks_c ⟨_, _⟩ _ _
  · cases h
attribute [go_sem] glClicks
noncomputable def glChoose : List TV → Option TV
  | [s, t, .agg [.int .i64 rg, .int .i64 fl]] => match rowL unVials s, rowL unI t with
    | some a, some b => if a.length ≤ 2199023255552 then some (.tup [.int .i64 (chooseP a b rg fl).1, .int .i64 (chooseP a b rg fl).2]) else none
    | _, _ => none
  | _ => none
theorem glChoose_ok : ∀ xs r, glChoose xs = some r → PCalls Try.prog 30 xs r := by
  intro xs r h
  unfold glChoose at h
  split at h
  · split at h
    · rename_i a b ha hb
      split at h
      · rename_i hc; cases h; exact lChoose_c (rowL_some (un := unVials) rfl (@unVials_some) ha) (rowL_some (un := unI) rfl (@unI_some) hb) _ _ hc
      · cases h
    · cases h
  · cases h
attribute [go_sem] glChoose
noncomputable def spJ1 : Pm.Spec := (((((((spB3.one 25 gSame).one 18 glCheck).one 20 glTilt).one 16 glCan).one 26 glNext).one 23 glFalse).one 28 glClicks).one 30 glChoose
attribute [go_sem] spJ1
theorem spJ1_ok : SpecOk Try.prog spJ1 := Spec.one_ok glChoose_ok (Spec.one_ok glClicks_ok (Spec.one_ok glFalse_ok (Spec.one_ok glNext_ok (Spec.one_ok glCan_ok (Spec.one_ok glTilt_ok (Spec.one_ok glCheck_ok (Spec.one_ok gSame_ok spB3_ok)))))))

theorem oTo_c (a b : Int) : PCalls Try.prog 44 [.int .i64 a, .int .i64 b] (.agg [.int .i64 a, .int .i64 b]) := by
  refine pcalls_by Try.mixes noSpec_ok (fn := Try.f44) Try.func44 rfl (by kernel_rfl) (by show 2 ≤ _; decide) ?_
  simp (decide := true) (maxSteps := 4000000) only [go_sem, Nat.reduceAdd, Nat.reduceSub, Nat.reduceMul, Nat.reduceDiv, Nat.reduceMod, Nat.reduceLT, Nat.reduceLeDiff, Nat.reduceEqDiff, Nat.reduceBEq, Nat.reduceBNe, Nat.reduceGT, Int.reduceAdd, Int.reduceSub, Int.reduceMul, Int.reduceNeg, Int.reduceLT, Int.reduceLE, Int.reduceEq, Int.reduceNe, Int.reduceBEq, Int.reduceBNe, Int.reduceToNat, Int.reduceGT, Int.reduceGE, ↓reduceIte, decide_true, decide_false, Try.f44]
noncomputable def goTo : List TV → Option TV
  | [.int .i64 a, .int .i64 b] => some (.agg [.int .i64 a, .int .i64 b])
  | _ => none
theorem goTo_ok : ∀ xs r, goTo xs = some r → PCalls Try.prog 44 xs r := by
  intro xs r h
  unfold goTo at h
  split at h
  · cases h; exact oTo_c _ _
  · cases h
attribute [go_sem] goTo
noncomputable def spJ2 : Pm.Spec := spJ1.one 44 goTo
attribute [go_sem] spJ2
theorem spJ2_ok : SpecOk Try.prog spJ2 := Spec.one_ok goTo_ok spJ1_ok
theorem oVial_c : PCalls Try.prog 43 [] exV.t := by
  refine pcalls_by Try.mixes spJ2_ok (fn := Try.f43) Try.func43 rfl (by kernel_rfl) (by show 0 ≤ _; decide) ?_
  simp (decide := true) (maxSteps := 4000000) only [go_sem, Nat.reduceAdd, Nat.reduceSub, Nat.reduceMul, Nat.reduceDiv, Nat.reduceMod, Nat.reduceLT, Nat.reduceLeDiff, Nat.reduceEqDiff, Nat.reduceBEq, Nat.reduceBNe, Nat.reduceGT, Int.reduceAdd, Int.reduceSub, Int.reduceMul, Int.reduceNeg, Int.reduceLT, Int.reduceLE, Int.reduceEq, Int.reduceNe, Int.reduceBEq, Int.reduceBNe, Int.reduceToNat, Int.reduceGT, Int.reduceGE, ↓reduceIte, decide_true, decide_false, Try.f43, exV, Vial.t, Vial.cs]
theorem oOther_c : PCalls Try.prog 46 [] exO.t := by
  refine pcalls_by Try.mixes spJ2_ok (fn := Try.f46) Try.func46 rfl (by kernel_rfl) (by show 0 ≤ _; decide) ?_
  simp (decide := true) (maxSteps := 4000000) only [go_sem, Nat.reduceAdd, Nat.reduceSub, Nat.reduceMul, Nat.reduceDiv, Nat.reduceMod, Nat.reduceLT, Nat.reduceLeDiff, Nat.reduceEqDiff, Nat.reduceBEq, Nat.reduceBNe, Nat.reduceGT, Int.reduceAdd, Int.reduceSub, Int.reduceMul, Int.reduceNeg, Int.reduceLT, Int.reduceLE, Int.reduceEq, Int.reduceNe, Int.reduceBEq, Int.reduceBNe, Int.reduceToNat, Int.reduceGT, Int.reduceGE, ↓reduceIte, decide_true, decide_false, Try.f46, exO, Vial.t, Vial.cs]
theorem oReadings_c : PCalls Try.prog 45 [] (.sl (exR.flatMap Rd.cs) 3 true) := by
  refine pcalls_by Try.mixes spJ2_ok (fn := Try.f45) Try.func45 rfl (by kernel_rfl) (by show 0 ≤ _; decide) ?_
  simp (decide := true) (maxSteps := 4000000) only [go_sem, Nat.reduceAdd, Nat.reduceSub, Nat.reduceMul, Nat.reduceDiv, Nat.reduceMod, Nat.reduceLT, Nat.reduceLeDiff, Nat.reduceEqDiff, Nat.reduceBEq, Nat.reduceBNe, Nat.reduceGT, Int.reduceAdd, Int.reduceSub, Int.reduceMul, Int.reduceNeg, Int.reduceLT, Int.reduceLE, Int.reduceEq, Int.reduceNe, Int.reduceBEq, Int.reduceBNe, Int.reduceToNat, Int.reduceGT, Int.reduceGE, ↓reduceIte, decide_true, decide_false, Try.f45, exR, Rd.cs, List.flatMap_cons, List.flatMap_nil]
noncomputable def goVial : List TV → Option TV
  | [] => some (exV.t)
  | _ => none
theorem goVial_ok : ∀ xs r, goVial xs = some r → PCalls Try.prog 43 xs r := by
  intro xs r h
  unfold goVial at h
  split at h
  · cases h; exact oVial_c
  · cases h
attribute [go_sem] goVial
noncomputable def goOther : List TV → Option TV
  | [] => some (exO.t)
  | _ => none
theorem goOther_ok : ∀ xs r, goOther xs = some r → PCalls Try.prog 46 xs r := by
  intro xs r h
  unfold goOther at h
  split at h
  · cases h; exact oOther_c
  · cases h
attribute [go_sem] goOther
noncomputable def goReadings : List TV → Option TV
  | [] => some (.sl (exR.flatMap Rd.cs) 3 true)
  | _ => none
theorem goReadings_ok : ∀ xs r, goReadings xs = some r → PCalls Try.prog 45 xs r := by
  intro xs r h
  unfold goReadings at h
  split at h
  · cases h; exact oReadings_c
  · cases h
attribute [go_sem] goReadings
noncomputable def spJ3 : Pm.Spec := ((spJ2.one 43 goVial).one 46 goOther).one 45 goReadings
attribute [go_sem] spJ3
theorem spJ3_ok : SpecOk Try.prog spJ3 := Spec.one_ok goReadings_ok (Spec.one_ok goOther_ok (Spec.one_ok goVial_ok spJ2_ok))
theorem ex1 : canP ⟨40, 16, 20, 50, 52, 38, 42, 1⟩ [⟨14, 32, false⟩, ⟨9, 27, true⟩] 50 40 250 = (true, 0) := by decide +kernel
theorem ex2 : tiltR ⟨40, 16, 20, 50, 52, 38, 42, 1⟩ [⟨14, 32, false⟩, ⟨9, 27, true⟩] = ⟨⟨200, 312⟩, ⟨40, 42⟩, 0⟩ := by decide +kernel
theorem ex3 : falseP ⟨40, 16, 20, 50, 52, 38, 42, 1⟩ [⟨14, 32, false⟩, ⟨9, 27, true⟩, ⟨5, 23, true⟩] = (.sl (ints [1, 2]) 2 false, 0) := by rfl
theorem ex4 : nextP ⟨40, 16, 20, 50, 52, 38, 42, 1⟩ [⟨14, 32, false⟩] = (true, 118, 0) := by decide +kernel
theorem ex5 : clicksP ⟨200, 312⟩ 20 60 = (-13, 0) := by decide +kernel
theorem ex6 : chooseP [⟨40, 16, 20, 50, 52, 38, 42, 1⟩, ⟨60, 20, 24, 20, 20, 58, 62, 1⟩] [30, 40] 600 300 = (1, 0) := by decide +kernel
theorem oWorks_c : PCalls Try.prog 22 [] (.bool true) := by
  refine pcalls_by Try.mixes spJ3_ok (fn := Try.f22) Try.func22 rfl (by kernel_rfl) (by show 0 ≤ _; decide) ?_
  simp (decide := true) (maxSteps := 4000000) only [go_sem, Nat.reduceAdd, Nat.reduceSub, Nat.reduceMul, Nat.reduceDiv, Nat.reduceMod, Nat.reduceLT, Nat.reduceLeDiff, Nat.reduceEqDiff, Nat.reduceBEq, Nat.reduceBNe, Nat.reduceGT, Int.reduceAdd, Int.reduceSub, Int.reduceMul, Int.reduceNeg, Int.reduceLT, Int.reduceLE, Int.reduceEq, Int.reduceNe, Int.reduceBEq, Int.reduceBNe, Int.reduceToNat, Int.reduceGT, Int.reduceGE, ↓reduceIte, decide_true, decide_false, eq_self, Nat.mul_one, Nat.zero_mul, Nat.one_mul, Int.le_refl, Nat.le_refl, Int.cast_ofNat_Int, Try.f22, exV, exO, exR, Vial.t, Vial.cs, Rd.cs, List.flatMap_cons, List.flatMap_nil, ex1, ex2, ex3, ex4, ex5, ex6, TE.t, Span.t, Span.cs, unRds, unVials, unI, ints, List.map_cons, List.map_nil]
end Go.Proofs.Ytgofljmnlfnlnaa
