/- What the claim leans on, text 6. -/
import Derived.Test.YtjmkccckohcfkaaC5
set_option linter.unusedSimpArgs false
set_option linter.unusedVariables false

/- Part Sr. -/
namespace Go.Os
open Go Go.Pm Go.Oc Go.Oh
def sum3 (A B C : List Span) (k : Nat) : Span := addS (addS (atS A k) (atS B k)) (atS C k)
def inBd (bound : Int) (s : Span) : Bool := decide (-bound ≤ s.lo) && decide (s.hi ≤ bound)
/-- Do three such parts fit? -/
def fitB (bound : Int) (b0 b1 b2 : Bool) (A B C : List Span) : Bool := b0 && (b1 && (b2 && (List.range A.length).all fun k => inBd bound (sum3 A B C k)))
def tlAll (l : List Span) (n : Nat) : Bool := decide (l.length = n) && l.all (spannedB · (-1000) 1000)
end Go.Os
namespace Go.Proofs.Ytjmkccckohcfkaa
open Go.RowKit Go.Pm Go.Oc Go.Oh Go.Os
set_option maxRecDepth 100000
set_option linter.unusedVariables false
set_option maxHeartbeats 8000000

theorem sIs_c (a b k : Int) (s : TV) : PCalls Try.prog 85 [.agg [.int .i64 a, .int .i64 b, s], .cptr [.int .i64 k]] (.bool (a == k)) := by
  refine pcalls_by Try.mixes noSpec_ok (fn := Try.f85) Try.func85 rfl (by kernel_rfl) (by show 2 ≤ _; decide) ?_
  simp (decide := true) (maxSteps := 4000000) only [go_sem, Nat.reduceAdd, Nat.reduceSub, Nat.reduceMul, Nat.reduceDiv, Nat.reduceMod, Nat.reduceLT, Nat.reduceLeDiff, Nat.reduceEqDiff, Nat.reduceBEq, Nat.reduceBNe, Nat.reduceGT, Int.reduceAdd, Int.reduceSub, Int.reduceMul, Int.reduceNeg, Int.reduceLT, Int.reduceLE, Int.reduceEq, Int.reduceNe, Int.reduceBEq, Int.reduceBNe, Int.reduceToNat, Int.reduceGT, Int.reduceGE, ↓reduceIte, decide_true, decide_false, eq_self, Nat.mul_one, Nat.zero_mul, Nat.one_mul, Int.le_refl, Nat.le_refl, Int.cast_ofNat_Int, Try.f85]
noncomputable def sxIs : List TV → Option TV
  | [.agg [.int .i64 a, .int .i64 b, s], .cptr [.int .i64 k]] => some (.bool (a == k))
  | _ => none
theorem sxIs_ok : ∀ xs r, sxIs xs = some r → PCalls Try.prog 85 xs r := by
  intro xs r h
  unfold sxIs at h
  split at h
  · cases h; exact sIs_c _ _ _ _
  · cases h
attribute [go_sem] sxIs
noncomputable def spRa : Pm.Spec := { noSpec with fz := fun _ => true }
@[go_sem] theorem spRa_p (f : FuncId) (xs : List TV) : spRa.p f xs = Pm.Spec.p ({ noSpec with fz := fun _ => true }) f xs := rfl
@[go_sem] theorem spRa_h (f : FuncId) (ps : List PV) (hl : List PO) : spRa.h f ps hl = Pm.Spec.h ({ noSpec with fz := fun _ => true }) f ps hl := rfl
@[go_sem] theorem spRa_fz (f : FuncId) : spRa.fz f = Pm.Spec.fz ({ noSpec with fz := fun _ => true }) f := rfl
@[go_sem] theorem spRa_fr (f : FuncId) : spRa.fr f = Pm.Spec.fr ({ noSpec with fz := fun _ => true }) f := rfl
@[go_sem] theorem spRa_mu (t : TypeId) : spRa.mu t = Pm.Spec.mu ({ noSpec with fz := fun _ => true }) t := rfl
@[go_sem] theorem spRa_nf (t : TypeId) : spRa.nf t = Pm.Spec.nf ({ noSpec with fz := fun _ => true }) t := rfl
theorem spRa_ok : SpecOk Try.prog spRa := ⟨noSpec_ok.1, noSpec_ok.2⟩
theorem sOf_c {l : List Pt} {i : Nat} {p : Pt} (hp : l[i]? = some p) (kind : Int) (f : Bool) : PCalls Try.prog 84 [.int .i64 i, .int .i64 kind, .cptr [.sl (l.flatMap Pt.cs) l.length f]] (.agg [.int .i64 p.k, .int .i64 p.p, p.s, .fn 85 [] [.cptr [.int .i64 kind]]]) := by
  have hd := flat_at Pt.cs (n := 3) (fun _ => rfl) hp
  have hlt : (i : Int) < l.length := by have := (List.getElem?_eq_some_iff.1 hp).1; omega
  refine pcalls_by Try.mixes spRa_ok (fn := Try.f84) Try.func84 rfl (by kernel_rfl) (by show 3 ≤ _; decide) ?_
  simp (decide := true) (maxSteps := 4000000) only [go_sem, Nat.reduceAdd, Nat.reduceSub, Nat.reduceMul, Nat.reduceDiv, Nat.reduceMod, Nat.reduceLT, Nat.reduceLeDiff, Nat.reduceEqDiff, Nat.reduceBEq, Nat.reduceBNe, Nat.reduceGT, Int.reduceAdd, Int.reduceSub, Int.reduceMul, Int.reduceNeg, Int.reduceLT, Int.reduceLE, Int.reduceEq, Int.reduceNe, Int.reduceBEq, Int.reduceBNe, Int.reduceToNat, Int.reduceGT, Int.reduceGE, ↓reduceIte, decide_true, decide_false, eq_self, Nat.mul_one, Nat.zero_mul, Nat.one_mul, Int.le_refl, Nat.le_refl, Int.cast_ofNat_Int, Try.f84, hd, hlt, Int.toNat_natCast, Pt.cs]
noncomputable def sxOf : List TV → Option TV
  | [.int .i64 i, .int .i64 kind, .cptr [.sl cs n f]] => match unP cs with
    | some l => if n = l.length ∧ 0 ≤ i then (match l[i.toNat]? with
      | some p => some (.agg [.int .i64 p.k, .int .i64 p.p, p.s, .fn 85 [] [.cptr [.int .i64 kind]]])
      | none => none) else none
    | none => none
  | _ => none
theorem sxOf_ok : ∀ xs r, sxOf xs = some r → PCalls Try.prog 84 xs r := by
  intro xs r h
  unfold sxOf at h
  split at h
  · split at h
    · rename_i l hl
      split at h
      · rename_i hc
        split at h
        · rename_i p hp
          cases h
          obtain ⟨rfl, h0⟩ := hc
          have := sOf_c hp
          rw [Int.toNat_of_nonneg h0, ← unP_some hl] at this
          exact this _ _
        · cases h
      · cases h
    · cases h
  · cases h
attribute [go_sem] sxOf
noncomputable def spRb : Pm.Spec := (noSpec.one 85 sxIs).one 95 sxSum
@[go_sem] theorem spRb_p (f : FuncId) (xs : List TV) : spRb.p f xs = Pm.Spec.p ((noSpec.one 85 sxIs).one 95 sxSum) f xs := rfl
@[go_sem] theorem spRb_h (f : FuncId) (ps : List PV) (hl : List PO) : spRb.h f ps hl = Pm.Spec.h ((noSpec.one 85 sxIs).one 95 sxSum) f ps hl := rfl
@[go_sem] theorem spRb_fz (f : FuncId) : spRb.fz f = Pm.Spec.fz ((noSpec.one 85 sxIs).one 95 sxSum) f := rfl
@[go_sem] theorem spRb_fr (f : FuncId) : spRb.fr f = Pm.Spec.fr ((noSpec.one 85 sxIs).one 95 sxSum) f := rfl
@[go_sem] theorem spRb_mu (t : TypeId) : spRb.mu t = Pm.Spec.mu ((noSpec.one 85 sxIs).one 95 sxSum) t := rfl
@[go_sem] theorem spRb_nf (t : TypeId) : spRb.nf t = Pm.Spec.nf ((noSpec.one 85 sxIs).one 95 sxSum) t := rfl
theorem spRb_ok : SpecOk Try.prog spRb := Spec.one_ok sxSum_ok (Spec.one_ok sxIs_ok noSpec_ok)
theorem sFit_c (bound k0 k1 k2 p0 p1 p2 c0 c1 c2 : Int) (A B C : List Span) (f0 f1 f2 f : Bool) (hb : 0 ≤ bound ∧ bound ≤ 5000) (hn : 1 ≤ A.length ∧ A.length ≤ 12) (hA : tlAll A A.length = true) (hB : tlAll B A.length = true) (hC : tlAll C A.length = true) :
    PCalls Try.prog 86 [.int .i64 bound, .sl [.int .i64 k0, .int .i64 p0, .sl (A.flatMap Span.cs) A.length f0, .fn 85 [] [.cptr [.int .i64 c0]], .int .i64 k1, .int .i64 p1, .sl (B.flatMap Span.cs) B.length f1, .fn 85 [] [.cptr [.int .i64 c1]],
      .int .i64 k2, .int .i64 p2, .sl (C.flatMap Span.cs) C.length f2, .fn 85 [] [.cptr [.int .i64 c2]]] 3 f] (.bool (fitB bound (k0 == c0) (k1 == c1) (k2 == c2) A B C)) := by
  have hBl : B.length = A.length := by unfold tlAll at hB; simp at hB; exact hB.1
  have hCl : C.length = A.length := by unfold tlAll at hC; simp at hC; exact hC.1
  have bd : ∀ (L : List Span), tlAll L A.length = true → ∀ s ∈ L, -1000 ≤ s.lo ∧ s.lo ≤ s.hi ∧ s.hi ≤ 1000 := fun L hL s hs => by
    unfold tlAll at hL
    rw [Bool.and_eq_true] at hL
    exact spannedB_iff.1 (List.all_eq_true.1 hL.2 s hs)
  refine pcalls_by Try.mixes spRb_ok (fn := Try.f86) Try.func86 rfl (by kernel_rfl) (by show 2 ≤ _; decide) ?_
  simp (decide := true) (maxSteps := 4000000) only [go_sem, Nat.reduceAdd, Nat.reduceSub, Nat.reduceMul, Nat.reduceDiv, Nat.reduceMod, Nat.reduceLT, Nat.reduceLeDiff, Nat.reduceEqDiff, Nat.reduceBEq, Nat.reduceBNe, Nat.reduceGT, Int.reduceAdd, Int.reduceSub, Int.reduceMul, Int.reduceNeg, Int.reduceLT, Int.reduceLE, Int.reduceEq, Int.reduceNe, Int.reduceBEq, Int.reduceBNe, Int.reduceToNat, Int.reduceGT, Int.reduceGE, ↓reduceIte, decide_true, decide_false, eq_self, Nat.mul_one, Nat.zero_mul, Nat.one_mul, Int.le_refl, Nat.le_refl, Int.cast_ofNat_Int, Try.f86]
  refine pwpC_loopU (A := { j : Nat // j ≤ 3 ∧ (0 < j → (k0 == c0) = true) ∧ (1 < j → (k1 == c1) = true) ∧ (2 < j → (k2 == c2) = true) }) [0, 1, 4, 9, 10] (fun j => [(11, .t (.int .i64 j.1))]) (fun _ => []) (fun j => 3 - j.1) ⟨0, by omega, by omega, by omega, by omega⟩ (by decide) (fun _ => by rfl) ?_ fun Q1 hQ1 ⟨j, hj, hj0, hj1, hj2⟩ I1 hI1 => ?_
  · simp (decide := true) (maxSteps := 4000000) only [go_sem, Nat.reduceAdd, Nat.reduceSub, Nat.reduceMul, Nat.reduceDiv, Nat.reduceMod, Nat.reduceLT, Nat.reduceLeDiff, Nat.reduceEqDiff, Nat.reduceBEq, Nat.reduceBNe, Nat.reduceGT, Int.reduceAdd, Int.reduceSub, Int.reduceMul, Int.reduceNeg, Int.reduceLT, Int.reduceLE, Int.reduceEq, Int.reduceNe, Int.reduceBEq, Int.reduceBNe, Int.reduceToNat, Int.reduceGT, Int.reduceGE, ↓reduceIte, decide_true, decide_false, eq_self, Nat.mul_one, Nat.zero_mul, Nat.one_mul, Int.le_refl, Nat.le_refl, Int.cast_ofNat_Int]
  · rcases (show j = 0 ∨ j = 1 ∨ j = 2 ∨ j = 3 by omega) with rfl | rfl | rfl | rfl
    · have d1 : (0 : Int) < 3 := by decide
      rcases (Bool.eq_false_or_eq_true (k0 == c0)).symm with hk | hk
      · simp (decide := true) (maxSteps := 4000000) only [go_sem, Nat.reduceAdd, Nat.reduceSub, Nat.reduceMul, Nat.reduceDiv, Nat.reduceMod, Nat.reduceLT, Nat.reduceLeDiff, Nat.reduceEqDiff, Nat.reduceBEq, Nat.reduceBNe, Nat.reduceGT, Int.reduceAdd, Int.reduceSub, Int.reduceMul, Int.reduceNeg, Int.reduceLT, Int.reduceLE, Int.reduceEq, Int.reduceNe, Int.reduceBEq, Int.reduceBNe, Int.reduceToNat, Int.reduceGT, Int.reduceGE, ↓reduceIte, decide_true, decide_false, eq_self, Nat.mul_one, Nat.zero_mul, Nat.one_mul, Int.le_refl, Nat.le_refl, Int.cast_ofNat_Int, d1, hk]
        refine hQ1 _ _ ?_
        simp (decide := true) (maxSteps := 4000000) only [go_sem, Nat.reduceAdd, Nat.reduceSub, Nat.reduceMul, Nat.reduceDiv, Nat.reduceMod, Nat.reduceLT, Nat.reduceLeDiff, Nat.reduceEqDiff, Nat.reduceBEq, Nat.reduceBNe, Nat.reduceGT, Int.reduceAdd, Int.reduceSub, Int.reduceMul, Int.reduceNeg, Int.reduceLT, Int.reduceLE, Int.reduceEq, Int.reduceNe, Int.reduceBEq, Int.reduceBNe, Int.reduceToNat, Int.reduceGT, Int.reduceGE, ↓reduceIte, decide_true, decide_false, eq_self, Nat.mul_one, Nat.zero_mul, Nat.one_mul, Int.le_refl, Nat.le_refl, Int.cast_ofNat_Int, fitB, hk, Bool.false_and]
      · simp (decide := true) (maxSteps := 4000000) only [go_sem, Nat.reduceAdd, Nat.reduceSub, Nat.reduceMul, Nat.reduceDiv, Nat.reduceMod, Nat.reduceLT, Nat.reduceLeDiff, Nat.reduceEqDiff, Nat.reduceBEq, Nat.reduceBNe, Nat.reduceGT, Int.reduceAdd, Int.reduceSub, Int.reduceMul, Int.reduceNeg, Int.reduceLT, Int.reduceLE, Int.reduceEq, Int.reduceNe, Int.reduceBEq, Int.reduceBNe, Int.reduceToNat, Int.reduceGT, Int.reduceGE, ↓reduceIte, decide_true, decide_false, eq_self, Nat.mul_one, Nat.zero_mul, Nat.one_mul, Int.le_refl, Nat.le_refl, Int.cast_ofNat_Int, d1, hk]
        refine hI1 _ ⟨1, by omega, fun _ => hk, by omega, by omega⟩ (by simp only; omega) ?_
        simp (decide := true) (maxSteps := 4000000) only [go_sem, Nat.reduceAdd, Nat.reduceSub, Nat.reduceMul, Nat.reduceDiv, Nat.reduceMod, Nat.reduceLT, Nat.reduceLeDiff, Nat.reduceEqDiff, Nat.reduceBEq, Nat.reduceBNe, Nat.reduceGT, Int.reduceAdd, Int.reduceSub, Int.reduceMul, Int.reduceNeg, Int.reduceLT, Int.reduceLE, Int.reduceEq, Int.reduceNe, Int.reduceBEq, Int.reduceBNe, Int.reduceToNat, Int.reduceGT, Int.reduceGE, ↓reduceIte, decide_true, decide_false, eq_self, Nat.mul_one, Nat.zero_mul, Nat.one_mul, Int.le_refl, Nat.le_refl, Int.cast_ofNat_Int, wl1]
    · have d1 : (1 : Int) < 3 := by decide
      rcases (Bool.eq_false_or_eq_true (k1 == c1)).symm with hk | hk
      · simp (decide := true) (maxSteps := 4000000) only [go_sem, Nat.reduceAdd, Nat.reduceSub, Nat.reduceMul, Nat.reduceDiv, Nat.reduceMod, Nat.reduceLT, Nat.reduceLeDiff, Nat.reduceEqDiff, Nat.reduceBEq, Nat.reduceBNe, Nat.reduceGT, Int.reduceAdd, Int.reduceSub, Int.reduceMul, Int.reduceNeg, Int.reduceLT, Int.reduceLE, Int.reduceEq, Int.reduceNe, Int.reduceBEq, Int.reduceBNe, Int.reduceToNat, Int.reduceGT, Int.reduceGE, ↓reduceIte, decide_true, decide_false, eq_self, Nat.mul_one, Nat.zero_mul, Nat.one_mul, Int.le_refl, Nat.le_refl, Int.cast_ofNat_Int, d1, hk]
        refine hQ1 _ _ ?_
        simp (decide := true) (maxSteps := 4000000) only [go_sem, Nat.reduceAdd, Nat.reduceSub, Nat.reduceMul, Nat.reduceDiv, Nat.reduceMod, Nat.reduceLT, Nat.reduceLeDiff, Nat.reduceEqDiff, Nat.reduceBEq, Nat.reduceBNe, Nat.reduceGT, Int.reduceAdd, Int.reduceSub, Int.reduceMul, Int.reduceNeg, Int.reduceLT, Int.reduceLE, Int.reduceEq, Int.reduceNe, Int.reduceBEq, Int.reduceBNe, Int.reduceToNat, Int.reduceGT, Int.reduceGE, ↓reduceIte, decide_true, decide_false, eq_self, Nat.mul_one, Nat.zero_mul, Nat.one_mul, Int.le_refl, Nat.le_refl, Int.cast_ofNat_Int, fitB, hk, hj0 (by omega), Bool.false_and, Bool.true_and]
      · simp (decide := true) (maxSteps := 4000000) only [go_sem, Nat.reduceAdd, Nat.reduceSub, Nat.reduceMul, Nat.reduceDiv, Nat.reduceMod, Nat.reduceLT, Nat.reduceLeDiff, Nat.reduceEqDiff, Nat.reduceBEq, Nat.reduceBNe, Nat.reduceGT, Int.reduceAdd, Int.reduceSub, Int.reduceMul, Int.reduceNeg, Int.reduceLT, Int.reduceLE, Int.reduceEq, Int.reduceNe, Int.reduceBEq, Int.reduceBNe, Int.reduceToNat, Int.reduceGT, Int.reduceGE, ↓reduceIte, decide_true, decide_false, eq_self, Nat.mul_one, Nat.zero_mul, Nat.one_mul, Int.le_refl, Nat.le_refl, Int.cast_ofNat_Int, d1, hk]
        refine hI1 _ ⟨2, by omega, fun _ => hj0 (by omega), fun _ => hk, by omega⟩ (by simp only; omega) ?_
        simp (decide := true) (maxSteps := 4000000) only [go_sem, Nat.reduceAdd, Nat.reduceSub, Nat.reduceMul, Nat.reduceDiv, Nat.reduceMod, Nat.reduceLT, Nat.reduceLeDiff, Nat.reduceEqDiff, Nat.reduceBEq, Nat.reduceBNe, Nat.reduceGT, Int.reduceAdd, Int.reduceSub, Int.reduceMul, Int.reduceNeg, Int.reduceLT, Int.reduceLE, Int.reduceEq, Int.reduceNe, Int.reduceBEq, Int.reduceBNe, Int.reduceToNat, Int.reduceGT, Int.reduceGE, ↓reduceIte, decide_true, decide_false, eq_self, Nat.mul_one, Nat.zero_mul, Nat.one_mul, Int.le_refl, Nat.le_refl, Int.cast_ofNat_Int, wl2]
    · have d1 : (2 : Int) < 3 := by decide
      rcases (Bool.eq_false_or_eq_true (k2 == c2)).symm with hk | hk
      · simp (decide := true) (maxSteps := 4000000) only [go_sem, Nat.reduceAdd, Nat.reduceSub, Nat.reduceMul, Nat.reduceDiv, Nat.reduceMod, Nat.reduceLT, Nat.reduceLeDiff, Nat.reduceEqDiff, Nat.reduceBEq, Nat.reduceBNe, Nat.reduceGT, Int.reduceAdd, Int.reduceSub, Int.reduceMul, Int.reduceNeg, Int.reduceLT, Int.reduceLE, Int.reduceEq, Int.reduceNe, Int.reduceBEq, Int.reduceBNe, Int.reduceToNat, Int.reduceGT, Int.reduceGE, ↓reduceIte, decide_true, decide_false, eq_self, Nat.mul_one, Nat.zero_mul, Nat.one_mul, Int.le_refl, Nat.le_refl, Int.cast_ofNat_Int, d1, hk]
        refine hQ1 _ _ ?_
        simp (decide := true) (maxSteps := 4000000) only [go_sem, Nat.reduceAdd, Nat.reduceSub, Nat.reduceMul, Nat.reduceDiv, Nat.reduceMod, Nat.reduceLT, Nat.reduceLeDiff, Nat.reduceEqDiff, Nat.reduceBEq, Nat.reduceBNe, Nat.reduceGT, Int.reduceAdd, Int.reduceSub, Int.reduceMul, Int.reduceNeg, Int.reduceLT, Int.reduceLE, Int.reduceEq, Int.reduceNe, Int.reduceBEq, Int.reduceBNe, Int.reduceToNat, Int.reduceGT, Int.reduceGE, ↓reduceIte, decide_true, decide_false, eq_self, Nat.mul_one, Nat.zero_mul, Nat.one_mul, Int.le_refl, Nat.le_refl, Int.cast_ofNat_Int, fitB, hk, hj0 (by omega), hj1 (by omega), Bool.false_and, Bool.true_and]
      · simp (decide := true) (maxSteps := 4000000) only [go_sem, Nat.reduceAdd, Nat.reduceSub, Nat.reduceMul, Nat.reduceDiv, Nat.reduceMod, Nat.reduceLT, Nat.reduceLeDiff, Nat.reduceEqDiff, Nat.reduceBEq, Nat.reduceBNe, Nat.reduceGT, Int.reduceAdd, Int.reduceSub, Int.reduceMul, Int.reduceNeg, Int.reduceLT, Int.reduceLE, Int.reduceEq, Int.reduceNe, Int.reduceBEq, Int.reduceBNe, Int.reduceToNat, Int.reduceGT, Int.reduceGE, ↓reduceIte, decide_true, decide_false, eq_self, Nat.mul_one, Nat.zero_mul, Nat.one_mul, Int.le_refl, Nat.le_refl, Int.cast_ofNat_Int, d1, hk]
        refine hI1 _ ⟨3, by omega, fun _ => hj0 (by omega), fun _ => hj1 (by omega), fun _ => hk⟩ (by simp only; omega) ?_
        simp (decide := true) (maxSteps := 4000000) only [go_sem, Nat.reduceAdd, Nat.reduceSub, Nat.reduceMul, Nat.reduceDiv, Nat.reduceMod, Nat.reduceLT, Nat.reduceLeDiff, Nat.reduceEqDiff, Nat.reduceBEq, Nat.reduceBNe, Nat.reduceGT, Int.reduceAdd, Int.reduceSub, Int.reduceMul, Int.reduceNeg, Int.reduceLT, Int.reduceLE, Int.reduceEq, Int.reduceNe, Int.reduceBEq, Int.reduceBNe, Int.reduceToNat, Int.reduceGT, Int.reduceGE, ↓reduceIte, decide_true, decide_false, eq_self, Nat.mul_one, Nat.zero_mul, Nat.one_mul, Int.le_refl, Nat.le_refl, Int.cast_ofNat_Int, wl3]
    · have hk0 := hj0 (by omega)
      have hk1 := hj1 (by omega)
      have hk2 := hj2 (by omega)
      simp (decide := true) (maxSteps := 4000000) only [go_sem, Nat.reduceAdd, Nat.reduceSub, Nat.reduceMul, Nat.reduceDiv, Nat.reduceMod, Nat.reduceLT, Nat.reduceLeDiff, Nat.reduceEqDiff, Nat.reduceBEq, Nat.reduceBNe, Nat.reduceGT, Int.reduceAdd, Int.reduceSub, Int.reduceMul, Int.reduceNeg, Int.reduceLT, Int.reduceLE, Int.reduceEq, Int.reduceNe, Int.reduceBEq, Int.reduceBNe, Int.reduceToNat, Int.reduceGT, Int.reduceGE, ↓reduceIte, decide_true, decide_false, eq_self, Nat.mul_one, Nat.zero_mul, Nat.one_mul, Int.le_refl, Nat.le_refl, Int.cast_ofNat_Int]
      refine hQ1 _ _ ?_
      have hfb : fitB bound (k0 == c0) (k1 == c1) (k2 == c2) A B C = (List.range A.length).all fun k => inBd bound (sum3 A B C k) := by unfold fitB; rw [hk0, hk1, hk2]; simp
      rw [hfb]
      simp (decide := true) (maxSteps := 4000000) only [go_sem, Nat.reduceAdd, Nat.reduceSub, Nat.reduceMul, Nat.reduceDiv, Nat.reduceMod, Nat.reduceLT, Nat.reduceLeDiff, Nat.reduceEqDiff, Nat.reduceBEq, Nat.reduceBNe, Nat.reduceGT, Int.reduceAdd, Int.reduceSub, Int.reduceMul, Int.reduceNeg, Int.reduceLT, Int.reduceLE, Int.reduceEq, Int.reduceNe, Int.reduceBEq, Int.reduceBNe, Int.reduceToNat, Int.reduceGT, Int.reduceGE, ↓reduceIte, decide_true, decide_false, eq_self, Nat.mul_one, Nat.zero_mul, Nat.one_mul, Int.le_refl, Nat.le_refl, Int.cast_ofNat_Int]
      refine pwpC_loopU (A := { k : Nat // k ≤ A.length ∧ ∀ j, j < k → inBd bound (sum3 A B C j) = true }) [0, 1, 4, 27] (fun k => [(28, .t (.int .i64 k.1))]) (fun _ => []) (fun k => A.length - k.1) ⟨0, by omega, fun j hj => by omega⟩ (by decide) (fun _ => by rfl) ?_ fun Q2 hQ2 ⟨k, hk, hkk⟩ I2 hI2 => ?_
      · simp (decide := true) (maxSteps := 4000000) only [go_sem, Nat.reduceAdd, Nat.reduceSub, Nat.reduceMul, Nat.reduceDiv, Nat.reduceMod, Nat.reduceLT, Nat.reduceLeDiff, Nat.reduceEqDiff, Nat.reduceBEq, Nat.reduceBNe, Nat.reduceGT, Int.reduceAdd, Int.reduceSub, Int.reduceMul, Int.reduceNeg, Int.reduceLT, Int.reduceLE, Int.reduceEq, Int.reduceNe, Int.reduceBEq, Int.reduceBNe, Int.reduceToNat, Int.reduceGT, Int.reduceGE, ↓reduceIte, decide_true, decide_false, eq_self, Nat.mul_one, Nat.zero_mul, Nat.one_mul, Int.le_refl, Nat.le_refl, Int.cast_ofNat_Int]
      · by_cases hlt : (k : Int) < A.length
        · obtain ⟨x, hx⟩ := get_lt (l := A) (k := k) (by omega)
          obtain ⟨y, hy⟩ := get_lt (l := B) (k := k) (by omega)
          obtain ⟨z, hz⟩ := get_lt (l := C) (k := k) (by omega)
          have dx := flat_at Span.cs (n := 2) (fun _ => rfl) hx
          have dy := flat_at Span.cs (n := 2) (fun _ => rfl) hy
          have dz := flat_at Span.cs (n := 2) (fun _ => rfl) hz
          have bx := bd A hA x (List.mem_of_getElem? hx)
          have by' := bd B hB y (List.mem_of_getElem? hy)
          have bz := bd C hC z (List.mem_of_getElem? hz)
          have hc1 : IntKind.i64.wrap (k + 1) = ((k + 1 : Nat) : Int) := by rw [wrap_in (by omega) (by omega)]; omega
          have hs3 : sum3 A B C k = addS (addS x y) z := by unfold sum3; rw [atS_eq hx, atS_eq hy, atS_eq hz]
          have hun : unS [.int .i64 x.lo, .int .i64 x.hi, .int .i64 y.lo, .int .i64 y.hi, .int .i64 z.lo, .int .i64 z.hi] = some [x, y, z] := unS_eq [x, y, z]
          have hbd : [x, y, z].all bdB = true := by
            have b1 : bdB x = true := bdB_iff.2 (by omega)
            have b2 : bdB y = true := bdB_iff.2 (by omega)
            have b3 : bdB z = true := bdB_iff.2 (by omega)
            simp [b1, b2, b3]
          have hsm : sumL [x, y, z] = addS (addS x y) z := by simp [sumL, addS]
          obtain ⟨S, hS⟩ : ∃ S, addS (addS x y) z = S := ⟨_, rfl⟩
          rw [hS] at hsm hs3
          have w0 : IntKind.i64.wrap (0 - bound) = -bound := by rw [wrap_in (by omega) (by omega)]; omega
          by_cases q1 : S.lo < -bound
          · have hf : ((List.range A.length).all fun k => inBd bound (sum3 A B C k)) = false := by
              rw [List.all_eq_false]
              refine ⟨k, List.mem_range.2 (by omega), ?_⟩
              rw [hs3]; unfold inBd; simp; intro; omega
            simp (decide := true) (maxSteps := 4000000) only [go_sem, Nat.reduceAdd, Nat.reduceSub, Nat.reduceMul, Nat.reduceDiv, Nat.reduceMod, Nat.reduceLT, Nat.reduceLeDiff, Nat.reduceEqDiff, Nat.reduceBEq, Nat.reduceBNe, Nat.reduceGT, Int.reduceAdd, Int.reduceSub, Int.reduceMul, Int.reduceNeg, Int.reduceLT, Int.reduceLE, Int.reduceEq, Int.reduceNe, Int.reduceBEq, Int.reduceBNe, Int.reduceToNat, Int.reduceGT, Int.reduceGE, ↓reduceIte, decide_true, decide_false, eq_self, Nat.mul_one, Nat.zero_mul, Nat.one_mul, Int.le_refl, Nat.le_refl, Int.cast_ofNat_Int, hlt, dx, dy, dz, Span.cs, Span.t, hBl, hCl, Int.toNat_natCast, hun, hbd, hsm, w0, q1]
            refine hQ2 _ _ ?_
            simp (decide := true) (maxSteps := 4000000) only [go_sem, Nat.reduceAdd, Nat.reduceSub, Nat.reduceMul, Nat.reduceDiv, Nat.reduceMod, Nat.reduceLT, Nat.reduceLeDiff, Nat.reduceEqDiff, Nat.reduceBEq, Nat.reduceBNe, Nat.reduceGT, Int.reduceAdd, Int.reduceSub, Int.reduceMul, Int.reduceNeg, Int.reduceLT, Int.reduceLE, Int.reduceEq, Int.reduceNe, Int.reduceBEq, Int.reduceBNe, Int.reduceToNat, Int.reduceGT, Int.reduceGE, ↓reduceIte, decide_true, decide_false, eq_self, Nat.mul_one, Nat.zero_mul, Nat.one_mul, Int.le_refl, Nat.le_refl, Int.cast_ofNat_Int, hf]
          · by_cases q2 : S.hi > bound
            · have hf : ((List.range A.length).all fun k => inBd bound (sum3 A B C k)) = false := by
                rw [List.all_eq_false]
                refine ⟨k, List.mem_range.2 (by omega), ?_⟩
                rw [hs3]; unfold inBd; simp; intro; omega
              simp (decide := true) (maxSteps := 4000000) only [go_sem, Nat.reduceAdd, Nat.reduceSub, Nat.reduceMul, Nat.reduceDiv, Nat.reduceMod, Nat.reduceLT, Nat.reduceLeDiff, Nat.reduceEqDiff, Nat.reduceBEq, Nat.reduceBNe, Nat.reduceGT, Int.reduceAdd, Int.reduceSub, Int.reduceMul, Int.reduceNeg, Int.reduceLT, Int.reduceLE, Int.reduceEq, Int.reduceNe, Int.reduceBEq, Int.reduceBNe, Int.reduceToNat, Int.reduceGT, Int.reduceGE, ↓reduceIte, decide_true, decide_false, eq_self, Nat.mul_one, Nat.zero_mul, Nat.one_mul, Int.le_refl, Nat.le_refl, Int.cast_ofNat_Int, hlt, dx, dy, dz, Span.cs, Span.t, hBl, hCl, Int.toNat_natCast, hun, hbd, hsm, w0, q1, q2]
              refine hQ2 _ _ ?_
              simp (decide := true) (maxSteps := 4000000) only [go_sem, Nat.reduceAdd, Nat.reduceSub, Nat.reduceMul, Nat.reduceDiv, Nat.reduceMod, Nat.reduceLT, Nat.reduceLeDiff, Nat.reduceEqDiff, Nat.reduceBEq, Nat.reduceBNe, Nat.reduceGT, Int.reduceAdd, Int.reduceSub, Int.reduceMul, Int.reduceNeg, Int.reduceLT, Int.reduceLE, Int.reduceEq, Int.reduceNe, Int.reduceBEq, Int.reduceBNe, Int.reduceToNat, Int.reduceGT, Int.reduceGE, ↓reduceIte, decide_true, decide_false, eq_self, Nat.mul_one, Nat.zero_mul, Nat.one_mul, Int.le_refl, Nat.le_refl, Int.cast_ofNat_Int, hf]
            · simp (decide := true) (maxSteps := 4000000) only [go_sem, Nat.reduceAdd, Nat.reduceSub, Nat.reduceMul, Nat.reduceDiv, Nat.reduceMod, Nat.reduceLT, Nat.reduceLeDiff, Nat.reduceEqDiff, Nat.reduceBEq, Nat.reduceBNe, Nat.reduceGT, Int.reduceAdd, Int.reduceSub, Int.reduceMul, Int.reduceNeg, Int.reduceLT, Int.reduceLE, Int.reduceEq, Int.reduceNe, Int.reduceBEq, Int.reduceBNe, Int.reduceToNat, Int.reduceGT, Int.reduceGE, ↓reduceIte, decide_true, decide_false, eq_self, Nat.mul_one, Nat.zero_mul, Nat.one_mul, Int.le_refl, Nat.le_refl, Int.cast_ofNat_Int, hlt, dx, dy, dz, Span.cs, Span.t, hBl, hCl, Int.toNat_natCast, hun, hbd, hsm, w0, q1, q2]
              refine hI2 _ ⟨k + 1, by omega, fun j hj => ?_⟩ (by simp only; omega) ?_
              · by_cases e : j = k
                · subst e; rw [hs3]; unfold inBd; simp; omega
                · exact hkk j (by omega)
              · simp (decide := true) (maxSteps := 4000000) only [go_sem, Nat.reduceAdd, Nat.reduceSub, Nat.reduceMul, Nat.reduceDiv, Nat.reduceMod, Nat.reduceLT, Nat.reduceLeDiff, Nat.reduceEqDiff, Nat.reduceBEq, Nat.reduceBNe, Nat.reduceGT, Int.reduceAdd, Int.reduceSub, Int.reduceMul, Int.reduceNeg, Int.reduceLT, Int.reduceLE, Int.reduceEq, Int.reduceNe, Int.reduceBEq, Int.reduceBNe, Int.reduceToNat, Int.reduceGT, Int.reduceGE, ↓reduceIte, decide_true, decide_false, eq_self, Nat.mul_one, Nat.zero_mul, Nat.one_mul, Int.le_refl, Nat.le_refl, Int.cast_ofNat_Int, hc1, hBl, hCl]
        · have hke : k = A.length := by omega
          have ht : ((List.range A.length).all fun k => inBd bound (sum3 A B C k)) = true := List.all_eq_true.2 fun j hj => hkk j (by rw [hke]; exact List.mem_range.1 hj)
          subst hke
          simp (decide := true) (maxSteps := 4000000) only [go_sem, Nat.reduceAdd, Nat.reduceSub, Nat.reduceMul, Nat.reduceDiv, Nat.reduceMod, Nat.reduceLT, Nat.reduceLeDiff, Nat.reduceEqDiff, Nat.reduceBEq, Nat.reduceBNe, Nat.reduceGT, Int.reduceAdd, Int.reduceSub, Int.reduceMul, Int.reduceNeg, Int.reduceLT, Int.reduceLE, Int.reduceEq, Int.reduceNe, Int.reduceBEq, Int.reduceBNe, Int.reduceToNat, Int.reduceGT, Int.reduceGE, ↓reduceIte, decide_true, decide_false, eq_self, Nat.mul_one, Nat.zero_mul, Nat.one_mul, Int.le_refl, Nat.le_refl, Int.cast_ofNat_Int, hlt]
          refine hQ2 _ _ ?_
          simp (decide := true) (maxSteps := 4000000) only [go_sem, Nat.reduceAdd, Nat.reduceSub, Nat.reduceMul, Nat.reduceDiv, Nat.reduceMod, Nat.reduceLT, Nat.reduceLeDiff, Nat.reduceEqDiff, Nat.reduceBEq, Nat.reduceBNe, Nat.reduceGT, Int.reduceAdd, Int.reduceSub, Int.reduceMul, Int.reduceNeg, Int.reduceLT, Int.reduceLE, Int.reduceEq, Int.reduceNe, Int.reduceBEq, Int.reduceBNe, Int.reduceToNat, Int.reduceGT, Int.reduceGE, ↓reduceIte, decide_true, decide_false, eq_self, Nat.mul_one, Nat.zero_mul, Nat.one_mul, Int.le_refl, Nat.le_refl, Int.cast_ofNat_Int, ht]
theorem sFit_c' (bound k0 k1 k2 p0 p1 p2 c0 c1 c2 : Int) (A B C : List Span) (f0 f1 f2 f : Bool) (hb : 0 ≤ bound ∧ bound ≤ 5000) (hn : 1 ≤ A.length ∧ A.length ≤ 12) (hA : tlAll A A.length = true) (hB : tlAll B A.length = true) (hC : tlAll C A.length = true) :
    PCalls Try.prog 86 [.int .i64 bound, .sl [.int .i64 k0, .int .i64 p0, .sl (A.flatMap Span.cs) A.length f0, .fn 85 [] [.cptr [.int .i64 c0]], .int .i64 k1, .int .i64 p1, .sl (B.flatMap Span.cs) A.length f1, .fn 85 [] [.cptr [.int .i64 c1]],
      .int .i64 k2, .int .i64 p2, .sl (C.flatMap Span.cs) A.length f2, .fn 85 [] [.cptr [.int .i64 c2]]] 3 f] (.bool (fitB bound (k0 == c0) (k1 == c1) (k2 == c2) A B C)) := by
  have := sFit_c bound k0 k1 k2 p0 p1 p2 c0 c1 c2 A B C f0 f1 f2 f hb hn hA hB hC
  have eB : B.length = A.length := by unfold tlAll at hB; simp at hB; exact hB.1
  have eC : C.length = A.length := by unfold tlAll at hC; simp at hC; exact hC.1
  rw [eB, eC] at this
  exact this
noncomputable def sxFit : List TV → Option TV
  | [.int .i64 bound, .sl [.int .i64 k0, .int .i64 p0, .sl us na f0, .fn F0 [] [.cptr [.int .i64 c0]], .int .i64 k1, .int .i64 p1, .sl vs nb f1, .fn F1 [] [.cptr [.int .i64 c1]], .int .i64 k2, .int .i64 p2, .sl ws nc f2, .fn F2 [] [.cptr [.int .i64 c2]]] 3 f] => match unS us, unS vs, unS ws with
    | some A, some B, some C => if (F0 = 85 ∧ F1 = 85 ∧ F2 = 85) ∧ (na = A.length ∧ nb = A.length ∧ nc = A.length) ∧ (0 ≤ bound ∧ bound ≤ 5000) ∧ (1 ≤ A.length ∧ A.length ≤ 12) ∧ tlAll A A.length = true ∧ tlAll B A.length = true ∧ tlAll C A.length = true then
        some (.bool (fitB bound (k0 == c0) (k1 == c1) (k2 == c2) A B C)) else none
    | _, _, _ => none
  | _ => none
theorem sxFit_ok : ∀ xs r, sxFit xs = some r → PCalls Try.prog 86 xs r := by
  intro xs r h
  unfold sxFit at h
  split at h
  · split at h
    · rename_i A B C hA hB hC
      split at h
      · rename_i hc
        cases h
        obtain ⟨⟨rfl, rfl, rfl⟩, ⟨rfl, rfl, rfl⟩, hb, hn, h1, h2, h3⟩ := hc
        rw [unS_some hA, unS_some hB, unS_some hC]
        exact sFit_c' _ _ _ _ _ _ _ _ _ _ A B C _ _ _ _ hb hn h1 h2 h3
      · cases h
    · cases h
  · cases h
attribute [go_sem] sxFit
noncomputable def sxIsStock : List TV → Option TV
  | [s] => match rowL unP s with
    | some l => if l.length ≤ 9000000000000 ∧ l.all decP = true then some (.bool (stockB l)) else none
    | none => none
  | _ => none
theorem sxIsStock_ok : ∀ xs r, sxIsStock xs = some r → PCalls Try.prog 83 xs r := by
  intro xs r h
  unfold sxIsStock at h
  split at h
  · split at h
    · rename_i l hl
      have hl := rowL_some (un := unP) (by first | rfl | exact unP_nil) (@unP_some) hl
      split at h
      · rename_i hc; cases h; exact sIsStock_c hl hc.1 hc.2
      · cases h
    · cases h
  · cases h
attribute [go_sem] sxIsStock
end Go.Proofs.Ytjmkccckohcfkaa

/- Part Ss. -/
namespace Go.Os
open Go Go.Pm Go.Oc Go.Oh
structure AS where
  parts : Option (Nat × Nat × Nat)
  price : Int
def partsT : Option (Nat × Nat × Nat) → TV
  | none => .nilSl
  | some (a, b, c) => .sl [.int .i64 a, .int .i64 b, .int .i64 c] 3 true
noncomputable def prc (l : List Pt) (i : Nat) : Int := match l[i]? with | some x => x.p | none => 0
noncomputable def knd (l : List Pt) (i : Nat) : Int := match l[i]? with | some x => x.k | none => 0
noncomputable def ers (l : List Pt) (i : Nat) : List Span := match l[i]? with | some x => errs x | none => []
noncomputable def cost3 (l : List Pt) (a b c : Nat) : Int := prc l a + prc l b + prc l c
noncomputable def fit3 (bound : Int) (l : List Pt) (a b c : Nat) : Bool := fitB bound (knd l a == 0) (knd l b == 1) (knd l c == 2) (ers l a) (ers l b) (ers l c)
noncomputable def asStep (bound : Int) (l : List Pt) (a b : Nat) (st : AS) (c : Nat) : AS :=
  if (st.parts.isNone || decide (cost3 l a b c < st.price)) && fit3 bound l a b c then ⟨some (a, b, c), cost3 l a b c⟩ else st
noncomputable def asC (bound : Int) (l : List Pt) (a b : Nat) (st : AS) (k : Nat) : AS := (List.range k).foldl (asStep bound l a b) st
noncomputable def asB (bound : Int) (l : List Pt) (a : Nat) (st : AS) (k : Nat) : AS := (List.range k).foldl (fun st b => asC bound l a b st l.length) st
noncomputable def asA (bound : Int) (l : List Pt) (k : Nat) : AS := (List.range k).foldl (fun st a => asB bound l a st l.length) ⟨none, 0⟩
theorem asC_succ (bound : Int) (l : List Pt) (a b : Nat) (st : AS) (k : Nat) : asC bound l a b st (k + 1) = asStep bound l a b (asC bound l a b st k) k := by unfold asC; rw [List.range_succ, List.foldl_append]; rfl
theorem asB_succ (bound : Int) (l : List Pt) (a : Nat) (st : AS) (k : Nat) : asB bound l a st (k + 1) = asC bound l a k (asB bound l a st k) l.length := by unfold asB; rw [List.range_succ, List.foldl_append]; rfl
theorem asA_succ (bound : Int) (l : List Pt) (k : Nat) : asA bound l (k + 1) = asB bound l k (asA bound l k) l.length := by unfold asA; rw [List.range_succ, List.foldl_append]; rfl
/-- What Assemble returns. -/
noncomputable def asmP (l : List Pt) (bound : Int) : TV × Int × Int :=
  if stockB l && inB bound 0 5000 then (if (asA bound l l.length).parts.isNone then (.nilSl, 0, 4) else (partsT (asA bound l l.length).parts, (asA bound l l.length).price, 0)) else (.nilSl, 0, 55)
/-- A part of a stock that is one. -/
theorem stock_at {l : List Pt} (h : stockB l = true) (hd : l.all decP = true) {i : Nat} {x : Pt} (hx : l[i]? = some x) :
    (0 ≤ x.k ∧ x.k ≤ 2) ∧ (0 ≤ x.p ∧ x.p ≤ 1000) ∧ (2 ≤ (errs x).length ∧ (errs x).length ≤ 12) ∧ tlAll (errs x) (firstN l) = true ∧ ∃ f, x.s = .sl ((errs x).flatMap Span.cs) (errs x).length f := by
  unfold stockB at h
  rw [Bool.and_eq_true] at h
  have h2 := List.all_eq_true.1 h.2 x (List.mem_of_getElem? hx)
  unfold ptB at h2
  simp only [Bool.and_eq_true, inB_iff, decide_eq_true_eq] at h2
  obtain ⟨h3, h4, h5, h6, h7⟩ := h2
  obtain ⟨hr, _⟩ := decP_row (List.all_eq_true.1 hd x (List.mem_of_getElem? hx))
  refine ⟨h3, h4, by omega, by unfold tlAll; rw [h6, h7]; simp, hr.ne (by omega)⟩
end Go.Os
namespace Go.Proofs.Ytjmkccckohcfkaa
open Go.RowKit Go.Pm Go.Oc Go.Oh Go.Os
set_option maxRecDepth 100000
set_option linter.unusedVariables false
set_option maxHeartbeats 8000000

noncomputable def spTa : Pm.Spec := { ((((spSa.one 83 sxIsStock).one 84 sxOf).one 86 sxFit)) with fz := fun _ => true }
@[go_sem] theorem spTa_p (f : FuncId) (xs : List TV) : spTa.p f xs = Pm.Spec.p ({ ((((spSa.one 83 sxIsStock).one 84 sxOf).one 86 sxFit)) with fz := fun _ => true }) f xs := rfl
@[go_sem] theorem spTa_h (f : FuncId) (ps : List PV) (hl : List PO) : spTa.h f ps hl = Pm.Spec.h ({ ((((spSa.one 83 sxIsStock).one 84 sxOf).one 86 sxFit)) with fz := fun _ => true }) f ps hl := rfl
@[go_sem] theorem spTa_fz (f : FuncId) : spTa.fz f = Pm.Spec.fz ({ ((((spSa.one 83 sxIsStock).one 84 sxOf).one 86 sxFit)) with fz := fun _ => true }) f := rfl
@[go_sem] theorem spTa_fr (f : FuncId) : spTa.fr f = Pm.Spec.fr ({ ((((spSa.one 83 sxIsStock).one 84 sxOf).one 86 sxFit)) with fz := fun _ => true }) f := rfl
@[go_sem] theorem spTa_mu (t : TypeId) : spTa.mu t = Pm.Spec.mu ({ ((((spSa.one 83 sxIsStock).one 84 sxOf).one 86 sxFit)) with fz := fun _ => true }) t := rfl
@[go_sem] theorem spTa_nf (t : TypeId) : spTa.nf t = Pm.Spec.nf ({ ((((spSa.one 83 sxIsStock).one 84 sxOf).one 86 sxFit)) with fz := fun _ => true }) t := rfl
theorem spTa_ok : SpecOk Try.prog spTa := ⟨(Spec.one_ok sxFit_ok (Spec.one_ok sxOf_ok (Spec.one_ok sxIsStock_ok spSa_ok))).1, (Spec.one_ok sxFit_ok (Spec.one_ok sxOf_ok (Spec.one_ok sxIsStock_ok spSa_ok))).2⟩
theorem sAssemble_c {l : List Pt} {s : TV} (hs : IsRow Pt.cs s l) (ll : l.length ≤ 9000000000000) (hd : l.all decP = true) (bound : Int) : PCalls Try.prog 30 [s, .int .i64 bound] (.tup [(asmP l bound).1, .int .i64 (asmP l bound).2.1, .int .i64 (asmP l bound).2.2]) := by
  have rs := rowP_is hs
  unfold rowL at rs
  simp only [unP_nil] at rs
  refine pcalls_by Try.mixes spTa_ok (fn := Try.f30) Try.func30 rfl (by kernel_rfl) (by show 2 ≤ _; decide) ?_
  unfold asmP
  cases hst : stockB l with
  | false => rcases hs with ⟨rfl, rfl⟩ | ⟨g, rfl⟩ <;> simp (decide := true) (maxSteps := 4000000) only [go_sem, Nat.reduceAdd, Nat.reduceSub, Nat.reduceMul, Nat.reduceDiv, Nat.reduceMod, Nat.reduceLT, Nat.reduceLeDiff, Nat.reduceEqDiff, Nat.reduceBEq, Nat.reduceBNe, Nat.reduceGT, Int.reduceAdd, Int.reduceSub, Int.reduceMul, Int.reduceNeg, Int.reduceLT, Int.reduceLE, Int.reduceEq, Int.reduceNe, Int.reduceBEq, Int.reduceBNe, Int.reduceToNat, Int.reduceGT, Int.reduceGE, ↓reduceIte, decide_true, decide_false, eq_self, Nat.mul_one, Nat.zero_mul, Nat.one_mul, Int.le_refl, Nat.le_refl, Int.cast_ofNat_Int, Try.f30, unP_eq, unP_nil, ll, hd, hst, Bool.false_and]
  | true =>
    have h3 : 3 ≤ l.length ∧ l.length ≤ 12 := by
      unfold stockB at hst
      rw [Bool.and_eq_true, inB_iff] at hst
      omega
    obtain ⟨g, rfl⟩ := hs.ne (by omega)
    cases hbd : inB bound 0 5000 with
    | false => simp (decide := true) (maxSteps := 4000000) only [go_sem, Nat.reduceAdd, Nat.reduceSub, Nat.reduceMul, Nat.reduceDiv, Nat.reduceMod, Nat.reduceLT, Nat.reduceLeDiff, Nat.reduceEqDiff, Nat.reduceBEq, Nat.reduceBNe, Nat.reduceGT, Int.reduceAdd, Int.reduceSub, Int.reduceMul, Int.reduceNeg, Int.reduceLT, Int.reduceLE, Int.reduceEq, Int.reduceNe, Int.reduceBEq, Int.reduceBNe, Int.reduceToNat, Int.reduceGT, Int.reduceGE, ↓reduceIte, decide_true, decide_false, eq_self, Nat.mul_one, Nat.zero_mul, Nat.one_mul, Int.le_refl, Nat.le_refl, Int.cast_ofNat_Int, Try.f30, unP_eq, ll, hd, hst, hbd, Bool.and_false]
    | true =>
      have hb := inB_iff.1 hbd
      simp (decide := true) (maxSteps := 4000000) only [go_sem, Nat.reduceAdd, Nat.reduceSub, Nat.reduceMul, Nat.reduceDiv, Nat.reduceMod, Nat.reduceLT, Nat.reduceLeDiff, Nat.reduceEqDiff, Nat.reduceBEq, Nat.reduceBNe, Nat.reduceGT, Int.reduceAdd, Int.reduceSub, Int.reduceMul, Int.reduceNeg, Int.reduceLT, Int.reduceLE, Int.reduceEq, Int.reduceNe, Int.reduceBEq, Int.reduceBNe, Int.reduceToNat, Int.reduceGT, Int.reduceGE, ↓reduceIte, decide_true, decide_false, eq_self, Nat.mul_one, Nat.zero_mul, Nat.one_mul, Int.le_refl, Nat.le_refl, Int.cast_ofNat_Int, Try.f30, unP_eq, ll, hd, hst, hbd, Bool.and_self]
      refine pwpC_loopU (A := { k : Nat // k ≤ l.length }) [1, 2, 7, 23] (fun k => [(24, .t (.int .i64 k.1)), (4, .t (partsT (asA bound l k.1).parts)), (5, .t (.int .i64 (asA bound l k.1).price))]) (fun _ => []) (fun k => l.length - k.1) ⟨0, by omega⟩ (by decide) (fun _ => by rfl) ?_ fun Q1 hQ1 ⟨a, ha⟩ I1 hI1 => ?_
      · simp (decide := true) (maxSteps := 4000000) only [go_sem, Nat.reduceAdd, Nat.reduceSub, Nat.reduceMul, Nat.reduceDiv, Nat.reduceMod, Nat.reduceLT, Nat.reduceLeDiff, Nat.reduceEqDiff, Nat.reduceBEq, Nat.reduceBNe, Nat.reduceGT, Int.reduceAdd, Int.reduceSub, Int.reduceMul, Int.reduceNeg, Int.reduceLT, Int.reduceLE, Int.reduceEq, Int.reduceNe, Int.reduceBEq, Int.reduceBNe, Int.reduceToNat, Int.reduceGT, Int.reduceGE, ↓reduceIte, decide_true, decide_false, eq_self, Nat.mul_one, Nat.zero_mul, Nat.one_mul, Int.le_refl, Nat.le_refl, Int.cast_ofNat_Int, asA, List.range_zero, List.foldl_nil, partsT]
      · by_cases hlt : (a : Int) < l.length
        · have hca : IntKind.i64.wrap (a + 1) = ((a + 1 : Nat) : Int) := by rw [wrap_in (by omega) (by omega)]; omega
          have hsa := asA_succ bound l a
          obtain ⟨SA, hSA⟩ : ∃ SA, asA bound l a = SA := ⟨_, rfl⟩
          rw [hSA] at hsa
          obtain ⟨pa, hpa⟩ := get_lt (l := l) (k := a) (by omega)
          simp (decide := true) (maxSteps := 4000000) only [go_sem, Nat.reduceAdd, Nat.reduceSub, Nat.reduceMul, Nat.reduceDiv, Nat.reduceMod, Nat.reduceLT, Nat.reduceLeDiff, Nat.reduceEqDiff, Nat.reduceBEq, Nat.reduceBNe, Nat.reduceGT, Int.reduceAdd, Int.reduceSub, Int.reduceMul, Int.reduceNeg, Int.reduceLT, Int.reduceLE, Int.reduceEq, Int.reduceNe, Int.reduceBEq, Int.reduceBNe, Int.reduceToNat, Int.reduceGT, Int.reduceGE, ↓reduceIte, decide_true, decide_false, eq_self, Nat.mul_one, Nat.zero_mul, Nat.one_mul, Int.le_refl, Nat.le_refl, Int.cast_ofNat_Int, hlt, hSA]
          refine pwpC_loopU (A := { k : Nat // k ≤ l.length }) [1, 2, 7, 23, 24, 8, 28] (fun k => [(29, .t (.int .i64 k.1)), (4, .t (partsT (asB bound l a SA k.1).parts)), (5, .t (.int .i64 (asB bound l a SA k.1).price))]) (fun _ => []) (fun k => l.length - k.1) ⟨0, by omega⟩ (by decide) (fun _ => by rfl) ?_ fun Q2 hQ2 ⟨b, hb'⟩ I2 hI2 => ?_
          · simp (decide := true) (maxSteps := 4000000) only [go_sem, Nat.reduceAdd, Nat.reduceSub, Nat.reduceMul, Nat.reduceDiv, Nat.reduceMod, Nat.reduceLT, Nat.reduceLeDiff, Nat.reduceEqDiff, Nat.reduceBEq, Nat.reduceBNe, Nat.reduceGT, Int.reduceAdd, Int.reduceSub, Int.reduceMul, Int.reduceNeg, Int.reduceLT, Int.reduceLE, Int.reduceEq, Int.reduceNe, Int.reduceBEq, Int.reduceBNe, Int.reduceToNat, Int.reduceGT, Int.reduceGE, ↓reduceIte, decide_true, decide_false, eq_self, Nat.mul_one, Nat.zero_mul, Nat.one_mul, Int.le_refl, Nat.le_refl, Int.cast_ofNat_Int, asB, List.range_zero, List.foldl_nil]
          · by_cases hlt2 : (b : Int) < l.length
            · have hcb : IntKind.i64.wrap (b + 1) = ((b + 1 : Nat) : Int) := by rw [wrap_in (by omega) (by omega)]; omega
              have hsb := asB_succ bound l a SA b
              obtain ⟨SB, hSB⟩ : ∃ SB, asB bound l a SA b = SB := ⟨_, rfl⟩
              rw [hSB] at hsb
              obtain ⟨pb, hpb⟩ := get_lt (l := l) (k := b) (by omega)
              simp (decide := true) (maxSteps := 4000000) only [go_sem, Nat.reduceAdd, Nat.reduceSub, Nat.reduceMul, Nat.reduceDiv, Nat.reduceMod, Nat.reduceLT, Nat.reduceLeDiff, Nat.reduceEqDiff, Nat.reduceBEq, Nat.reduceBNe, Nat.reduceGT, Int.reduceAdd, Int.reduceSub, Int.reduceMul, Int.reduceNeg, Int.reduceLT, Int.reduceLE, Int.reduceEq, Int.reduceNe, Int.reduceBEq, Int.reduceBNe, Int.reduceToNat, Int.reduceGT, Int.reduceGE, ↓reduceIte, decide_true, decide_false, eq_self, Nat.mul_one, Nat.zero_mul, Nat.one_mul, Int.le_refl, Nat.le_refl, Int.cast_ofNat_Int, hlt2, hSB]
              refine pwpC_loopU (A := { k : Nat // k ≤ l.length }) [1, 2, 7, 23, 24, 8, 28, 29, 9, 33] (fun k => [(34, .t (.int .i64 k.1)), (4, .t (partsT (asC bound l a b SB k.1).parts)), (5, .t (.int .i64 (asC bound l a b SB k.1).price))]) (fun _ => []) (fun k => l.length - k.1) ⟨0, by omega⟩ (by decide) (fun _ => by rfl) ?_ fun Q3 hQ3 ⟨c, hc'⟩ I3 hI3 => ?_
              · simp (decide := true) (maxSteps := 4000000) only [go_sem, Nat.reduceAdd, Nat.reduceSub, Nat.reduceMul, Nat.reduceDiv, Nat.reduceMod, Nat.reduceLT, Nat.reduceLeDiff, Nat.reduceEqDiff, Nat.reduceBEq, Nat.reduceBNe, Nat.reduceGT, Int.reduceAdd, Int.reduceSub, Int.reduceMul, Int.reduceNeg, Int.reduceLT, Int.reduceLE, Int.reduceEq, Int.reduceNe, Int.reduceBEq, Int.reduceBNe, Int.reduceToNat, Int.reduceGT, Int.reduceGE, ↓reduceIte, decide_true, decide_false, eq_self, Nat.mul_one, Nat.zero_mul, Nat.one_mul, Int.le_refl, Nat.le_refl, Int.cast_ofNat_Int, asC, List.range_zero, List.foldl_nil]
              · by_cases hlt3 : (c : Int) < l.length
                · have hcc : IntKind.i64.wrap (c + 1) = ((c + 1 : Nat) : Int) := by rw [wrap_in (by omega) (by omega)]; omega
                  have hsc := asC_succ bound l a b SB c
                  obtain ⟨pc, hpc⟩ := get_lt (l := l) (k := c) (by omega)
                  have da := flat_at Pt.cs (n := 3) (fun _ => rfl) hpa
                  have db := flat_at Pt.cs (n := 3) (fun _ => rfl) hpb
                  have dc := flat_at Pt.cs (n := 3) (fun _ => rfl) hpc
                  obtain ⟨ga1, ga2, ga3, ga4, fa, ga5⟩ := stock_at hst hd hpa
                  obtain ⟨gb1, gb2, gb3, gb4, fb, gb5⟩ := stock_at hst hd hpb
                  obtain ⟨gc1, gc2, gc3, gc4, fc, gc5⟩ := stock_at hst hd hpc
                  have hcost : cost3 l a b c = pa.p + pb.p + pc.p := by unfold cost3 prc; rw [hpa, hpb, hpc]
                  have hfit : fit3 bound l a b c = fitB bound (pa.k == 0) (pb.k == 1) (pc.k == 2) (errs pa) (errs pb) (errs pc) := by unfold fit3 knd ers; rw [hpa, hpb, hpc]
                  have ea : (errs pa).length = firstN l := by unfold tlAll at ga4; simp at ga4; exact ga4.1
                  have eb : (errs pb).length = firstN l := by unfold tlAll at gb4; simp at gb4; exact gb4.1
                  have ec : (errs pc).length = firstN l := by unfold tlAll at gc4; simp at gc4; exact gc4.1
                  obtain ⟨F, hF⟩ : ∃ F, firstN l = F := ⟨_, rfl⟩
                  rw [hF] at ga4 gb4 gc4 ea eb ec
                  have w1 : IntKind.i64.wrap (pa.p + pb.p) = pa.p + pb.p := wrap_in (by omega) (by omega)
                  have w2 : IntKind.i64.wrap (pa.p + pb.p + pc.p) = cost3 l a b c := by rw [hcost]; exact wrap_in (by omega) (by omega)
                  have hF12 : 1 ≤ F ∧ F ≤ 12 := by omega
                  obtain ⟨CO, hCO⟩ : ∃ CO, cost3 l a b c = CO := ⟨_, rfl⟩
                  obtain ⟨FI, hFI⟩ : ∃ FI, fit3 bound l a b c = FI := ⟨_, rfl⟩
                  rw [hFI] at hfit
                  rw [hCO] at w2
                  obtain ⟨ST, hST⟩ : ∃ ST, asC bound l a b SB c = ST := ⟨_, rfl⟩
                  rw [hST] at hsc
                  unfold asStep at hsc
                  rw [hCO, hFI] at hsc
                  obtain ⟨P, pr⟩ := ST
                  cases P with
                  | none =>
                    simp (decide := true) (maxSteps := 4000000) only [go_sem, Nat.reduceAdd, Nat.reduceSub, Nat.reduceMul, Nat.reduceDiv, Nat.reduceMod, Nat.reduceLT, Nat.reduceLeDiff, Nat.reduceEqDiff, Nat.reduceBEq, Nat.reduceBNe, Nat.reduceGT, Int.reduceAdd, Int.reduceSub, Int.reduceMul, Int.reduceNeg, Int.reduceLT, Int.reduceLE, Int.reduceEq, Int.reduceNe, Int.reduceBEq, Int.reduceBNe, Int.reduceToNat, Int.reduceGT, Int.reduceGE, ↓reduceIte, decide_true, decide_false, eq_self, Nat.mul_one, Nat.zero_mul, Nat.one_mul, Int.le_refl, Nat.le_refl, Int.cast_ofNat_Int, hlt, hlt2, hlt3, hST, partsT, hpa, hpb, hpc, unP_eq, unS_eq, ga5, gb5, gc5, ea, eb, ec, da, db, dc, Pt.cs, Int.toNat_natCast, w1, w2, hb, hF12, ga4, gb4, gc4, ← hfit]
                    cases FI with
                    | false =>
                      simp (decide := true) (maxSteps := 4000000) only [go_sem, Nat.reduceAdd, Nat.reduceSub, Nat.reduceMul, Nat.reduceDiv, Nat.reduceMod, Nat.reduceLT, Nat.reduceLeDiff, Nat.reduceEqDiff, Nat.reduceBEq, Nat.reduceBNe, Nat.reduceGT, Int.reduceAdd, Int.reduceSub, Int.reduceMul, Int.reduceNeg, Int.reduceLT, Int.reduceLE, Int.reduceEq, Int.reduceNe, Int.reduceBEq, Int.reduceBNe, Int.reduceToNat, Int.reduceGT, Int.reduceGE, ↓reduceIte, decide_true, decide_false, eq_self, Nat.mul_one, Nat.zero_mul, Nat.one_mul, Int.le_refl, Nat.le_refl, Int.cast_ofNat_Int]
                      refine hI3 _ ⟨c + 1, by omega⟩ (by simp only; omega) ?_
                      simp (decide := true) (maxSteps := 4000000) only [go_sem, Nat.reduceAdd, Nat.reduceSub, Nat.reduceMul, Nat.reduceDiv, Nat.reduceMod, Nat.reduceLT, Nat.reduceLeDiff, Nat.reduceEqDiff, Nat.reduceBEq, Nat.reduceBNe, Nat.reduceGT, Int.reduceAdd, Int.reduceSub, Int.reduceMul, Int.reduceNeg, Int.reduceLT, Int.reduceLE, Int.reduceEq, Int.reduceNe, Int.reduceBEq, Int.reduceBNe, Int.reduceToNat, Int.reduceGT, Int.reduceGE, ↓reduceIte, decide_true, decide_false, eq_self, Nat.mul_one, Nat.zero_mul, Nat.one_mul, Int.le_refl, Nat.le_refl, Int.cast_ofNat_Int, hcc, hsc, Option.isNone_none, Bool.true_or, Bool.true_and, Bool.and_false, partsT]
                    | true =>
                      simp (decide := true) (maxSteps := 4000000) only [go_sem, Nat.reduceAdd, Nat.reduceSub, Nat.reduceMul, Nat.reduceDiv, Nat.reduceMod, Nat.reduceLT, Nat.reduceLeDiff, Nat.reduceEqDiff, Nat.reduceBEq, Nat.reduceBNe, Nat.reduceGT, Int.reduceAdd, Int.reduceSub, Int.reduceMul, Int.reduceNeg, Int.reduceLT, Int.reduceLE, Int.reduceEq, Int.reduceNe, Int.reduceBEq, Int.reduceBNe, Int.reduceToNat, Int.reduceGT, Int.reduceGE, ↓reduceIte, decide_true, decide_false, eq_self, Nat.mul_one, Nat.zero_mul, Nat.one_mul, Int.le_refl, Nat.le_refl, Int.cast_ofNat_Int]
                      refine hI3 _ ⟨c + 1, by omega⟩ (by simp only; omega) ?_
                      simp (decide := true) (maxSteps := 4000000) only [go_sem, Nat.reduceAdd, Nat.reduceSub, Nat.reduceMul, Nat.reduceDiv, Nat.reduceMod, Nat.reduceLT, Nat.reduceLeDiff, Nat.reduceEqDiff, Nat.reduceBEq, Nat.reduceBNe, Nat.reduceGT, Int.reduceAdd, Int.reduceSub, Int.reduceMul, Int.reduceNeg, Int.reduceLT, Int.reduceLE, Int.reduceEq, Int.reduceNe, Int.reduceBEq, Int.reduceBNe, Int.reduceToNat, Int.reduceGT, Int.reduceGE, ↓reduceIte, decide_true, decide_false, eq_self, Nat.mul_one, Nat.zero_mul, Nat.one_mul, Int.le_refl, Nat.le_refl, Int.cast_ofNat_Int, hcc, hsc, Option.isNone_none, Bool.true_or, Bool.true_and, Bool.and_true, partsT]
                  | some P =>
                    obtain ⟨P1, P2, P3⟩ := P
                    simp (decide := true) (maxSteps := 4000000) only [go_sem, Nat.reduceAdd, Nat.reduceSub, Nat.reduceMul, Nat.reduceDiv, Nat.reduceMod, Nat.reduceLT, Nat.reduceLeDiff, Nat.reduceEqDiff, Nat.reduceBEq, Nat.reduceBNe, Nat.reduceGT, Int.reduceAdd, Int.reduceSub, Int.reduceMul, Int.reduceNeg, Int.reduceLT, Int.reduceLE, Int.reduceEq, Int.reduceNe, Int.reduceBEq, Int.reduceBNe, Int.reduceToNat, Int.reduceGT, Int.reduceGE, ↓reduceIte, decide_true, decide_false, eq_self, Nat.mul_one, Nat.zero_mul, Nat.one_mul, Int.le_refl, Nat.le_refl, Int.cast_ofNat_Int, hlt, hlt2, hlt3, hST, partsT, hpa, hpb, hpc, unP_eq, unS_eq, ga5, gb5, gc5, ea, eb, ec, da, db, dc, Pt.cs, Int.toNat_natCast, w1, w2, hb, hF12, ga4, gb4, gc4, ← hfit]
                    by_cases hlt4 : CO < pr
                    · cases FI with
                      | false =>
                        simp (decide := true) (maxSteps := 4000000) only [go_sem, Nat.reduceAdd, Nat.reduceSub, Nat.reduceMul, Nat.reduceDiv, Nat.reduceMod, Nat.reduceLT, Nat.reduceLeDiff, Nat.reduceEqDiff, Nat.reduceBEq, Nat.reduceBNe, Nat.reduceGT, Int.reduceAdd, Int.reduceSub, Int.reduceMul, Int.reduceNeg, Int.reduceLT, Int.reduceLE, Int.reduceEq, Int.reduceNe, Int.reduceBEq, Int.reduceBNe, Int.reduceToNat, Int.reduceGT, Int.reduceGE, ↓reduceIte, decide_true, decide_false, eq_self, Nat.mul_one, Nat.zero_mul, Nat.one_mul, Int.le_refl, Nat.le_refl, Int.cast_ofNat_Int, hlt4, Bool.and_false]
                        refine hI3 _ ⟨c + 1, by omega⟩ (by simp only; omega) ?_
                        simp (decide := true) (maxSteps := 4000000) only [go_sem, Nat.reduceAdd, Nat.reduceSub, Nat.reduceMul, Nat.reduceDiv, Nat.reduceMod, Nat.reduceLT, Nat.reduceLeDiff, Nat.reduceEqDiff, Nat.reduceBEq, Nat.reduceBNe, Nat.reduceGT, Int.reduceAdd, Int.reduceSub, Int.reduceMul, Int.reduceNeg, Int.reduceLT, Int.reduceLE, Int.reduceEq, Int.reduceNe, Int.reduceBEq, Int.reduceBNe, Int.reduceToNat, Int.reduceGT, Int.reduceGE, ↓reduceIte, decide_true, decide_false, eq_self, Nat.mul_one, Nat.zero_mul, Nat.one_mul, Int.le_refl, Nat.le_refl, Int.cast_ofNat_Int, hcc, hsc, Option.isNone_some, Bool.false_or, Bool.and_false, partsT]
                      | true =>
                        simp (decide := true) (maxSteps := 4000000) only [go_sem, Nat.reduceAdd, Nat.reduceSub, Nat.reduceMul, Nat.reduceDiv, Nat.reduceMod, Nat.reduceLT, Nat.reduceLeDiff, Nat.reduceEqDiff, Nat.reduceBEq, Nat.reduceBNe, Nat.reduceGT, Int.reduceAdd, Int.reduceSub, Int.reduceMul, Int.reduceNeg, Int.reduceLT, Int.reduceLE, Int.reduceEq, Int.reduceNe, Int.reduceBEq, Int.reduceBNe, Int.reduceToNat, Int.reduceGT, Int.reduceGE, ↓reduceIte, decide_true, decide_false, eq_self, Nat.mul_one, Nat.zero_mul, Nat.one_mul, Int.le_refl, Nat.le_refl, Int.cast_ofNat_Int, hlt4, Bool.and_true]
                        refine hI3 _ ⟨c + 1, by omega⟩ (by simp only; omega) ?_
                        simp (decide := true) (maxSteps := 4000000) only [go_sem, Nat.reduceAdd, Nat.reduceSub, Nat.reduceMul, Nat.reduceDiv, Nat.reduceMod, Nat.reduceLT, Nat.reduceLeDiff, Nat.reduceEqDiff, Nat.reduceBEq, Nat.reduceBNe, Nat.reduceGT, Int.reduceAdd, Int.reduceSub, Int.reduceMul, Int.reduceNeg, Int.reduceLT, Int.reduceLE, Int.reduceEq, Int.reduceNe, Int.reduceBEq, Int.reduceBNe, Int.reduceToNat, Int.reduceGT, Int.reduceGE, ↓reduceIte, decide_true, decide_false, eq_self, Nat.mul_one, Nat.zero_mul, Nat.one_mul, Int.le_refl, Nat.le_refl, Int.cast_ofNat_Int, hcc, hsc, hlt4, Option.isNone_some, Bool.false_or, Bool.and_true, partsT]
                    · simp (decide := true) (maxSteps := 4000000) only [go_sem, Nat.reduceAdd, Nat.reduceSub, Nat.reduceMul, Nat.reduceDiv, Nat.reduceMod, Nat.reduceLT, Nat.reduceLeDiff, Nat.reduceEqDiff, Nat.reduceBEq, Nat.reduceBNe, Nat.reduceGT, Int.reduceAdd, Int.reduceSub, Int.reduceMul, Int.reduceNeg, Int.reduceLT, Int.reduceLE, Int.reduceEq, Int.reduceNe, Int.reduceBEq, Int.reduceBNe, Int.reduceToNat, Int.reduceGT, Int.reduceGE, ↓reduceIte, decide_true, decide_false, eq_self, Nat.mul_one, Nat.zero_mul, Nat.one_mul, Int.le_refl, Nat.le_refl, Int.cast_ofNat_Int, hlt4, Bool.false_and]
                      refine hI3 _ ⟨c + 1, by omega⟩ (by simp only; omega) ?_
                      simp (decide := true) (maxSteps := 4000000) only [go_sem, Nat.reduceAdd, Nat.reduceSub, Nat.reduceMul, Nat.reduceDiv, Nat.reduceMod, Nat.reduceLT, Nat.reduceLeDiff, Nat.reduceEqDiff, Nat.reduceBEq, Nat.reduceBNe, Nat.reduceGT, Int.reduceAdd, Int.reduceSub, Int.reduceMul, Int.reduceNeg, Int.reduceLT, Int.reduceLE, Int.reduceEq, Int.reduceNe, Int.reduceBEq, Int.reduceBNe, Int.reduceToNat, Int.reduceGT, Int.reduceGE, ↓reduceIte, decide_true, decide_false, eq_self, Nat.mul_one, Nat.zero_mul, Nat.one_mul, Int.le_refl, Nat.le_refl, Int.cast_ofNat_Int, hcc, hsc, hlt4, Option.isNone_some, Bool.false_or, Bool.false_and, partsT]
                · have hke : c = l.length := by omega
                  subst hke
                  simp (decide := true) (maxSteps := 4000000) only [go_sem, Nat.reduceAdd, Nat.reduceSub, Nat.reduceMul, Nat.reduceDiv, Nat.reduceMod, Nat.reduceLT, Nat.reduceLeDiff, Nat.reduceEqDiff, Nat.reduceBEq, Nat.reduceBNe, Nat.reduceGT, Int.reduceAdd, Int.reduceSub, Int.reduceMul, Int.reduceNeg, Int.reduceLT, Int.reduceLE, Int.reduceEq, Int.reduceNe, Int.reduceBEq, Int.reduceBNe, Int.reduceToNat, Int.reduceGT, Int.reduceGE, ↓reduceIte, decide_true, decide_false, eq_self, Nat.mul_one, Nat.zero_mul, Nat.one_mul, Int.le_refl, Nat.le_refl, Int.cast_ofNat_Int, hlt3]
                  refine hQ3 _ _ ?_
                  simp (decide := true) (maxSteps := 4000000) only [go_sem, Nat.reduceAdd, Nat.reduceSub, Nat.reduceMul, Nat.reduceDiv, Nat.reduceMod, Nat.reduceLT, Nat.reduceLeDiff, Nat.reduceEqDiff, Nat.reduceBEq, Nat.reduceBNe, Nat.reduceGT, Int.reduceAdd, Int.reduceSub, Int.reduceMul, Int.reduceNeg, Int.reduceLT, Int.reduceLE, Int.reduceEq, Int.reduceNe, Int.reduceBEq, Int.reduceBNe, Int.reduceToNat, Int.reduceGT, Int.reduceGE, ↓reduceIte, decide_true, decide_false, eq_self, Nat.mul_one, Nat.zero_mul, Nat.one_mul, Int.le_refl, Nat.le_refl, Int.cast_ofNat_Int]
                  refine hI2 _ ⟨b + 1, by omega⟩ (by simp only; omega) ?_
                  simp (decide := true) (maxSteps := 4000000) only [go_sem, Nat.reduceAdd, Nat.reduceSub, Nat.reduceMul, Nat.reduceDiv, Nat.reduceMod, Nat.reduceLT, Nat.reduceLeDiff, Nat.reduceEqDiff, Nat.reduceBEq, Nat.reduceBNe, Nat.reduceGT, Int.reduceAdd, Int.reduceSub, Int.reduceMul, Int.reduceNeg, Int.reduceLT, Int.reduceLE, Int.reduceEq, Int.reduceNe, Int.reduceBEq, Int.reduceBNe, Int.reduceToNat, Int.reduceGT, Int.reduceGE, ↓reduceIte, decide_true, decide_false, eq_self, Nat.mul_one, Nat.zero_mul, Nat.one_mul, Int.le_refl, Nat.le_refl, Int.cast_ofNat_Int, hcb, hsb]
            · have hke : b = l.length := by omega
              subst hke
              simp (decide := true) (maxSteps := 4000000) only [go_sem, Nat.reduceAdd, Nat.reduceSub, Nat.reduceMul, Nat.reduceDiv, Nat.reduceMod, Nat.reduceLT, Nat.reduceLeDiff, Nat.reduceEqDiff, Nat.reduceBEq, Nat.reduceBNe, Nat.reduceGT, Int.reduceAdd, Int.reduceSub, Int.reduceMul, Int.reduceNeg, Int.reduceLT, Int.reduceLE, Int.reduceEq, Int.reduceNe, Int.reduceBEq, Int.reduceBNe, Int.reduceToNat, Int.reduceGT, Int.reduceGE, ↓reduceIte, decide_true, decide_false, eq_self, Nat.mul_one, Nat.zero_mul, Nat.one_mul, Int.le_refl, Nat.le_refl, Int.cast_ofNat_Int, hlt2]
              refine hQ2 _ _ ?_
              simp (decide := true) (maxSteps := 4000000) only [go_sem, Nat.reduceAdd, Nat.reduceSub, Nat.reduceMul, Nat.reduceDiv, Nat.reduceMod, Nat.reduceLT, Nat.reduceLeDiff, Nat.reduceEqDiff, Nat.reduceBEq, Nat.reduceBNe, Nat.reduceGT, Int.reduceAdd, Int.reduceSub, Int.reduceMul, Int.reduceNeg, Int.reduceLT, Int.reduceLE, Int.reduceEq, Int.reduceNe, Int.reduceBEq, Int.reduceBNe, Int.reduceToNat, Int.reduceGT, Int.reduceGE, ↓reduceIte, decide_true, decide_false, eq_self, Nat.mul_one, Nat.zero_mul, Nat.one_mul, Int.le_refl, Nat.le_refl, Int.cast_ofNat_Int]
              refine hI1 _ ⟨a + 1, by omega⟩ (by simp only; omega) ?_
              simp (decide := true) (maxSteps := 4000000) only [go_sem, Nat.reduceAdd, Nat.reduceSub, Nat.reduceMul, Nat.reduceDiv, Nat.reduceMod, Nat.reduceLT, Nat.reduceLeDiff, Nat.reduceEqDiff, Nat.reduceBEq, Nat.reduceBNe, Nat.reduceGT, Int.reduceAdd, Int.reduceSub, Int.reduceMul, Int.reduceNeg, Int.reduceLT, Int.reduceLE, Int.reduceEq, Int.reduceNe, Int.reduceBEq, Int.reduceBNe, Int.reduceToNat, Int.reduceGT, Int.reduceGE, ↓reduceIte, decide_true, decide_false, eq_self, Nat.mul_one, Nat.zero_mul, Nat.one_mul, Int.le_refl, Nat.le_refl, Int.cast_ofNat_Int, hca, hsa]
        · have hke : a = l.length := by omega
          subst hke
          simp (decide := true) (maxSteps := 4000000) only [go_sem, Nat.reduceAdd, Nat.reduceSub, Nat.reduceMul, Nat.reduceDiv, Nat.reduceMod, Nat.reduceLT, Nat.reduceLeDiff, Nat.reduceEqDiff, Nat.reduceBEq, Nat.reduceBNe, Nat.reduceGT, Int.reduceAdd, Int.reduceSub, Int.reduceMul, Int.reduceNeg, Int.reduceLT, Int.reduceLE, Int.reduceEq, Int.reduceNe, Int.reduceBEq, Int.reduceBNe, Int.reduceToNat, Int.reduceGT, Int.reduceGE, ↓reduceIte, decide_true, decide_false, eq_self, Nat.mul_one, Nat.zero_mul, Nat.one_mul, Int.le_refl, Nat.le_refl, Int.cast_ofNat_Int, hlt]
          refine hQ1 _ _ ?_
          obtain ⟨ST, hST⟩ : ∃ ST, asA bound l l.length = ST := ⟨_, rfl⟩
          rw [hST]
          obtain ⟨P, pr⟩ := ST
          cases P with
          | none => simp (decide := true) (maxSteps := 4000000) only [go_sem, Nat.reduceAdd, Nat.reduceSub, Nat.reduceMul, Nat.reduceDiv, Nat.reduceMod, Nat.reduceLT, Nat.reduceLeDiff, Nat.reduceEqDiff, Nat.reduceBEq, Nat.reduceBNe, Nat.reduceGT, Int.reduceAdd, Int.reduceSub, Int.reduceMul, Int.reduceNeg, Int.reduceLT, Int.reduceLE, Int.reduceEq, Int.reduceNe, Int.reduceBEq, Int.reduceBNe, Int.reduceToNat, Int.reduceGT, Int.reduceGE, ↓reduceIte, decide_true, decide_false, eq_self, Nat.mul_one, Nat.zero_mul, Nat.one_mul, Int.le_refl, Nat.le_refl, Int.cast_ofNat_Int, partsT, Option.isNone_none]
          | some P =>
            obtain ⟨a, b, c⟩ := P
            simp (decide := true) (maxSteps := 4000000) only [go_sem, Nat.reduceAdd, Nat.reduceSub, Nat.reduceMul, Nat.reduceDiv, Nat.reduceMod, Nat.reduceLT, Nat.reduceLeDiff, Nat.reduceEqDiff, Nat.reduceBEq, Nat.reduceBNe, Nat.reduceGT, Int.reduceAdd, Int.reduceSub, Int.reduceMul, Int.reduceNeg, Int.reduceLT, Int.reduceLE, Int.reduceEq, Int.reduceNe, Int.reduceBEq, Int.reduceBNe, Int.reduceToNat, Int.reduceGT, Int.reduceGE, ↓reduceIte, decide_true, decide_false, eq_self, Nat.mul_one, Nat.zero_mul, Nat.one_mul, Int.le_refl, Nat.le_refl, Int.cast_ofNat_Int, partsT, Option.isNone_some]
end Go.Proofs.Ytjmkccckohcfkaa

/- Part Oa. -/
namespace Go.Os
open Go Go.Pm Go.Oc Go.Oh
set_option maxRecDepth 100000
/-- The errors of a part, read by a program. -/
def unSc : List TV → Option (List Span)
  | [] => some []
  | .int .i64 a :: .int .i64 b :: r => (unSc r).map (⟨a, b⟩ :: ·)
  | _ => none
theorem unSc_eq : ∀ l : List Span, unSc (l.flatMap Span.cs) = some l
  | [] => rfl
  | p :: l => by
    rw [List.flatMap_cons]
    show (unSc (l.flatMap Span.cs)).map _ = _
    rw [unSc_eq l]; rfl
theorem unSc_some : ∀ {cs : List TV} {l : List Span}, unSc cs = some l → cs = l.flatMap Span.cs := by
  intro cs
  fun_induction unSc cs with
  | case1 => intro l h; cases h; rfl
  | case2 a b r ih =>
    intro l h
    cases hr : unSc r with
    | none => rw [hr] at h; cases h
    | some m =>
      rw [hr] at h
      cases h
      rw [List.flatMap_cons, ← ih hr]; rfl
  | case3 => intro l h; cases h
theorem unS_c (cs : List TV) : unS cs = unSc cs := by
  cases h : unSc cs with
  | some l => rw [unSc_some h]; exact unS_eq l
  | none =>
    cases h' : unS cs with
    | none => rfl
    | some l => rw [unS_some h', unSc_eq] at h; cases h
def errsC (x : Pt) : List Span := match x.s with
  | .sl cs n _ => match unSc cs with
    | some l => if n = l.length then l else []
    | none => []
  | _ => []
theorem errs_c : errs = errsC := by
  funext x
  unfold errs errsC rowL
  cases x.s <;> simp only [unS_c] <;> try rfl
  rename_i cs n f
  cases unSc cs with
  | none => rfl
  | some l => by_cases h : n = l.length <;> simp [h]
def ptG (er : Pt → List Span) (n : Nat) (x : Pt) : Bool := inB x.k 0 2 && (inB x.p 0 1000 && (inB (er x).length 2 12 && (decide ((er x).length = n) && (er x).all (spannedB · (-1000) 1000))))
def firstG (er : Pt → List Span) (l : List Pt) : Nat := match l[0]? with | some x => (er x).length | none => 0
def stockG (er : Pt → List Span) (l : List Pt) : Bool := inB l.length 3 12 && l.all (ptG er (firstG er l))
def prcG (l : List Pt) (i : Nat) : Int := match l[i]? with | some x => x.p | none => 0
def kndG (l : List Pt) (i : Nat) : Int := match l[i]? with | some x => x.k | none => 0
def ersG (er : Pt → List Span) (l : List Pt) (i : Nat) : List Span := match l[i]? with | some x => er x | none => []
def costG (l : List Pt) (a b c : Nat) : Int := prcG l a + prcG l b + prcG l c
def fitG (er : Pt → List Span) (bound : Int) (l : List Pt) (a b c : Nat) : Bool := fitB bound (kndG l a == 0) (kndG l b == 1) (kndG l c == 2) (ersG er l a) (ersG er l b) (ersG er l c)
def stepG (er : Pt → List Span) (bound : Int) (l : List Pt) (a b : Nat) (st : AS) (c : Nat) : AS :=
  if (st.parts.isNone || decide (costG l a b c < st.price)) && fitG er bound l a b c then ⟨some (a, b, c), costG l a b c⟩ else st
def asG (er : Pt → List Span) (bound : Int) (l : List Pt) : AS := (List.range l.length).foldl (fun st a => (List.range l.length).foldl (fun st b => (List.range l.length).foldl (stepG er bound l a b) st) st) ⟨none, 0⟩
theorem asA_G (bound : Int) (l : List Pt) : asA bound l l.length = asG errs bound l := rfl
def asmN (er : Pt → List Span) (l : List Pt) (bound : Int) : Option (Nat × Nat × Nat) × Int × Int :=
  if stockG er l && inB bound 0 5000 then (if (asG er bound l).parts.isNone then (none, 0, 4) else ((asG er bound l).parts, (asG er bound l).price, 0)) else (none, 0, 55)
theorem asmP_N (l : List Pt) (bound : Int) : asmP l bound = (partsT (asmN errsC l bound).1, (asmN errsC l bound).2.1, (asmN errsC l bound).2.2) := by
  rw [← errs_c]
  unfold asmP asmN
  rw [asA_G, show stockB l = stockG errs l from rfl]
  split
  · split <;> rfl
  · rfl
def ownX : Sx := ⟨36000, [⟨0, 0⟩, ⟨-10, 10⟩, ⟨20, 40⟩], ⟨-30, -20⟩, 5, [⟨0, 6⟩, ⟨-4, 4⟩]⟩
def sunsX : List Sun := [⟨1915, 1865⟩, ⟨1912, 1862⟩]
def trialsX : List Tr := [⟨36000, 0, 35985⟩, ⟨72000, 0, 72010⟩, ⟨36000, 0, 35960⟩]
def rw2 (a b c d : Int) : TV := .sl [.int .i64 a, .int .i64 b, .int .i64 c, .int .i64 d] 2 true
def stockX : List Pt := [⟨0, 50, rw2 0 4 0 10⟩, ⟨0, 30, rw2 (-3) 3 (-12) 12⟩, ⟨1, 20, rw2 0 0 2 6⟩, ⟨2, 10, rw2 (-2) 2 (-2) 2⟩, ⟨2, 25, rw2 0 1 0 1⟩]
deriving instance DecidableEq for Span
theorem exRead : readP ownX 54000 1 = (⟨53970, 54016⟩, 0) := by decide +kernel
theorem exIndex : indexP ownX ⟨1880, 1900⟩ sunsX = (⟨-28, -22⟩, ⟨1885, 1892⟩, 0) := by decide +kernel
theorem exTrial : trialP ownX (trialsX.take 2) = ([⟨0, 0⟩, ⟨0, 10⟩, ⟨25, 40⟩], ⟨-30, -20⟩, 0) := by decide +kernel
theorem exFalse : falseP ownX trialsX = ([0, 2], 0) := by decide +kernel
theorem exClass : classP ownX = (2, 54, 0) := by decide +kernel
theorem exStock : stockX.all decP = true := by
  have e : ∀ x ∈ stockX, decP x = true := fun x hx => by
    unfold decP rowL
    simp only [unS_c]
    unfold stockX at hx
    simp only [List.mem_cons, List.not_mem_nil, or_false] at hx
    rcases hx with rfl | rfl | rfl | rfl | rfl <;> decide
  exact List.all_eq_true.2 e
theorem exAsm : asmP stockX 20 = (.sl [.int .i64 1, .int .i64 2, .int .i64 3] 3 true, 60, 0) := by
  rw [asmP_N, show asmN errsC stockX 20 = (some (1, 2, 3), 60, 0) by decide +kernel]; rfl
end Go.Os
namespace Go.Proofs.Ytjmkccckohcfkaa
open Go.RowKit Go.Pm Go.Oc Go.Oh Go.Os
set_option maxRecDepth 100000
set_option linter.unusedVariables false
set_option maxHeartbeats 4000000

noncomputable def sxIndex : List TV → Option TV
  | [.agg [.int .i64 a0, sT, .int .i64 a1, .int .i64 a2, .int .i64 a3, sS], .agg [.int .i64 p, .int .i64 q], s] => match rowL unS sT, rowL unS sS, rowL unSun s with
    | some tab, some shade, some l => if tab.length ≤ 9000000000000 ∧ shade.length ≤ 9000000000000 ∧ l.length ≤ 9000000000000 then some (.tup [(indexP (⟨a0, tab, ⟨a1, a2⟩, a3, shade⟩ : Sx) ⟨p, q⟩ l).1.t, (indexP (⟨a0, tab, ⟨a1, a2⟩, a3, shade⟩ : Sx) ⟨p, q⟩ l).2.1.t, .int .i64 (indexP (⟨a0, tab, ⟨a1, a2⟩, a3, shade⟩ : Sx) ⟨p, q⟩ l).2.2]) else none
    | _, _, _ => none
  | _ => none
theorem sxIndex_ok : ∀ xs r, sxIndex xs = some r → PCalls Try.prog 22 xs r := by
  intro xs r h
  unfold sxIndex at h
  split at h
  · split at h
    · rename_i tab shade l hT hS hl
      have hT := rowL_some (un := unS) unS_nil (@unS_some) hT
      have hS := rowL_some (un := unS) unS_nil (@unS_some) hS
      have hl := rowL_some (un := unSun) unSun_nil (@unSun_some) hl
      split at h
      · rename_i hc; cases h; exact sIndex_c ⟨_, tab, ⟨_, _⟩, _, shade⟩ hT hS hc.1 hc.2.1 ⟨_, _⟩ hl hc.2.2
      · cases h
    · cases h
  · cases h
attribute [go_sem] sxIndex
noncomputable def sxTrial : List TV → Option TV
  | [.agg [.int .i64 a0, sT, .int .i64 a1, .int .i64 a2, .int .i64 a3, sS], s] => match rowL unS sT, rowL unS sS, rowL unTr s with
    | some tab, some shade, some l => if tab.length ≤ 9000000000000 ∧ shade.length ≤ 9000000000000 ∧ l.length ≤ 9000000000000 then some (.tup [rowF1 (trialP (⟨a0, tab, ⟨a1, a2⟩, a3, shade⟩ : Sx) l).1, (trialP (⟨a0, tab, ⟨a1, a2⟩, a3, shade⟩ : Sx) l).2.1.t, .int .i64 (trialP (⟨a0, tab, ⟨a1, a2⟩, a3, shade⟩ : Sx) l).2.2]) else none
    | _, _, _ => none
  | _ => none
theorem sxTrial_ok : ∀ xs r, sxTrial xs = some r → PCalls Try.prog 24 xs r := by
  intro xs r h
  unfold sxTrial at h
  split at h
  · split at h
    · rename_i tab shade l hT hS hl
      have hT := rowL_some (un := unS) unS_nil (@unS_some) hT
      have hS := rowL_some (un := unS) unS_nil (@unS_some) hS
      have hl := rowL_some (un := unTr) unTr_nil (@unTr_some) hl
      split at h
      · rename_i hc; cases h; exact sTrial_c ⟨_, tab, ⟨_, _⟩, _, shade⟩ hT hS hc.1 hc.2.1 hl hc.2.2
      · cases h
    · cases h
  · cases h
attribute [go_sem] sxTrial
noncomputable def sxFalse : List TV → Option TV
  | [.agg [.int .i64 a0, sT, .int .i64 a1, .int .i64 a2, .int .i64 a3, sS], s] => match rowL unS sT, rowL unS sS, rowL unTr s with
    | some tab, some shade, some l => if tab.length ≤ 9000000000000 ∧ shade.length ≤ 9000000000000 ∧ l.length ≤ 9000000000000 then some (.tup [rowI (nI (falseP (⟨a0, tab, ⟨a1, a2⟩, a3, shade⟩ : Sx) l).1), .int .i64 (falseP (⟨a0, tab, ⟨a1, a2⟩, a3, shade⟩ : Sx) l).2]) else none
    | _, _, _ => none
  | _ => none
theorem sxFalse_ok : ∀ xs r, sxFalse xs = some r → PCalls Try.prog 27 xs r := by
  intro xs r h
  unfold sxFalse at h
  split at h
  · split at h
    · rename_i tab shade l hT hS hl
      have hT := rowL_some (un := unS) unS_nil (@unS_some) hT
      have hS := rowL_some (un := unS) unS_nil (@unS_some) hS
      have hl := rowL_some (un := unTr) unTr_nil (@unTr_some) hl
      split at h
      · rename_i hc; cases h; exact sFalse_c ⟨_, tab, ⟨_, _⟩, _, shade⟩ hT hS hc.1 hc.2.1 hl hc.2.2
      · cases h
    · cases h
  · cases h
attribute [go_sem] sxFalse
noncomputable def sxAssemble : List TV → Option TV
  | [s, .int .i64 b] => match rowL unP s with
    | some l => if l.length ≤ 9000000000000 ∧ l.all decP = true then some (.tup [(asmP l b).1, .int .i64 (asmP l b).2.1, .int .i64 (asmP l b).2.2]) else none
    | none => none
  | _ => none
theorem sxAssemble_ok : ∀ xs r, sxAssemble xs = some r → PCalls Try.prog 30 xs r := by
  intro xs r h
  unfold sxAssemble at h
  split at h
  · split at h
    · rename_i l hl
      have hl := rowL_some (un := unP) (by first | rfl | exact unP_nil) (@unP_some) hl
      split at h
      · rename_i hc; cases h; exact sAssemble_c hl hc.1 hc.2 _
      · cases h
    · cases h
  · cases h
attribute [go_sem] sxAssemble
noncomputable def spO1 : Pm.Spec := ((((((spH.one 17 sxCheck).one 15 sxRead).one 19 sxClass).one 22 sxIndex).one 24 sxTrial).one 27 sxFalse).one 30 sxAssemble
@[go_sem] theorem spO1_p (f : FuncId) (xs : List TV) : spO1.p f xs = Pm.Spec.p (((((((spH.one 17 sxCheck).one 15 sxRead).one 19 sxClass).one 22 sxIndex).one 24 sxTrial).one 27 sxFalse).one 30 sxAssemble) f xs := rfl
@[go_sem] theorem spO1_h (f : FuncId) (ps : List PV) (hl : List PO) : spO1.h f ps hl = Pm.Spec.h (((((((spH.one 17 sxCheck).one 15 sxRead).one 19 sxClass).one 22 sxIndex).one 24 sxTrial).one 27 sxFalse).one 30 sxAssemble) f ps hl := rfl
@[go_sem] theorem spO1_fz (f : FuncId) : spO1.fz f = Pm.Spec.fz (((((((spH.one 17 sxCheck).one 15 sxRead).one 19 sxClass).one 22 sxIndex).one 24 sxTrial).one 27 sxFalse).one 30 sxAssemble) f := rfl
@[go_sem] theorem spO1_fr (f : FuncId) : spO1.fr f = Pm.Spec.fr (((((((spH.one 17 sxCheck).one 15 sxRead).one 19 sxClass).one 22 sxIndex).one 24 sxTrial).one 27 sxFalse).one 30 sxAssemble) f := rfl
@[go_sem] theorem spO1_mu (t : TypeId) : spO1.mu t = Pm.Spec.mu (((((((spH.one 17 sxCheck).one 15 sxRead).one 19 sxClass).one 22 sxIndex).one 24 sxTrial).one 27 sxFalse).one 30 sxAssemble) t := rfl
@[go_sem] theorem spO1_nf (t : TypeId) : spO1.nf t = Pm.Spec.nf (((((((spH.one 17 sxCheck).one 15 sxRead).one 19 sxClass).one 22 sxIndex).one 24 sxTrial).one 27 sxFalse).one 30 sxAssemble) t := rfl
theorem spO1_ok : SpecOk Try.prog spO1 := Spec.one_ok sxAssemble_ok (Spec.one_ok sxFalse_ok (Spec.one_ok sxTrial_ok (Spec.one_ok sxIndex_ok (Spec.one_ok sxClass_ok (Spec.one_ok sxRead_ok (Spec.one_ok sxCheck_ok spH_ok))))))
theorem oTo_c (a b : Int) : PCalls Try.prog 40 [.int .i64 a, .int .i64 b] (.agg [.int .i64 a, .int .i64 b]) := by
  refine pcalls_by Try.mixes noSpec_ok (fn := Try.f40) Try.func40 rfl (by kernel_rfl) (by show 2 ≤ _; decide) ?_
  simp (decide := true) (maxSteps := 4000000) only [go_sem, Nat.reduceAdd, Nat.reduceSub, Nat.reduceMul, Nat.reduceDiv, Nat.reduceMod, Nat.reduceLT, Nat.reduceLeDiff, Nat.reduceEqDiff, Nat.reduceBEq, Nat.reduceBNe, Nat.reduceGT, Int.reduceAdd, Int.reduceSub, Int.reduceMul, Int.reduceNeg, Int.reduceLT, Int.reduceLE, Int.reduceEq, Int.reduceNe, Int.reduceBEq, Int.reduceBNe, Int.reduceToNat, Int.reduceGT, Int.reduceGE, ↓reduceIte, decide_true, decide_false, eq_self, Nat.mul_one, Nat.zero_mul, Nat.one_mul, Int.le_refl, Nat.le_refl, Int.cast_ofNat_Int, Try.f40]
noncomputable def xoTo : List TV → Option TV
  | [.int .i64 a, .int .i64 b] => some (.agg [.int .i64 a, .int .i64 b])
  | _ => none
theorem xoTo_ok : ∀ xs r, xoTo xs = some r → PCalls Try.prog 40 xs r := by
  intro xs r h
  unfold xoTo at h
  split at h
  · cases h; exact oTo_c _ _
  · cases h
attribute [go_sem] xoTo
noncomputable def spO2 : Pm.Spec := spO1.one 40 xoTo
@[go_sem] theorem spO2_p (f : FuncId) (xs : List TV) : spO2.p f xs = Pm.Spec.p (spO1.one 40 xoTo) f xs := rfl
@[go_sem] theorem spO2_h (f : FuncId) (ps : List PV) (hl : List PO) : spO2.h f ps hl = Pm.Spec.h (spO1.one 40 xoTo) f ps hl := rfl
@[go_sem] theorem spO2_fz (f : FuncId) : spO2.fz f = Pm.Spec.fz (spO1.one 40 xoTo) f := rfl
@[go_sem] theorem spO2_fr (f : FuncId) : spO2.fr f = Pm.Spec.fr (spO1.one 40 xoTo) f := rfl
@[go_sem] theorem spO2_mu (t : TypeId) : spO2.mu t = Pm.Spec.mu (spO1.one 40 xoTo) t := rfl
@[go_sem] theorem spO2_nf (t : TypeId) : spO2.nf t = Pm.Spec.nf (spO1.one 40 xoTo) t := rfl
theorem spO2_ok : SpecOk Try.prog spO2 := Spec.one_ok xoTo_ok spO1_ok
def ownT : TV := .agg [.int .i64 36000, .sl [.int .i64 0, .int .i64 0, .int .i64 (-10), .int .i64 10, .int .i64 20, .int .i64 40] 3 true, .int .i64 (-30), .int .i64 (-20), .int .i64 5, .sl [.int .i64 0, .int .i64 6, .int .i64 (-4), .int .i64 4] 2 true]
theorem oOwn_c : PCalls Try.prog 50 [] ownT := by
  refine pcalls_by Try.mixes spO2_ok (fn := Try.f50) Try.func50 rfl (by kernel_rfl) (by show 0 ≤ _; decide) ?_
  simp (decide := true) (maxSteps := 4000000) only [go_sem, Nat.reduceAdd, Nat.reduceSub, Nat.reduceMul, Nat.reduceDiv, Nat.reduceMod, Nat.reduceLT, Nat.reduceLeDiff, Nat.reduceEqDiff, Nat.reduceBEq, Nat.reduceBNe, Nat.reduceGT, Int.reduceAdd, Int.reduceSub, Int.reduceMul, Int.reduceNeg, Int.reduceLT, Int.reduceLE, Int.reduceEq, Int.reduceNe, Int.reduceBEq, Int.reduceBNe, Int.reduceToNat, Int.reduceGT, Int.reduceGE, ↓reduceIte, decide_true, decide_false, eq_self, Nat.mul_one, Nat.zero_mul, Nat.one_mul, Int.le_refl, Nat.le_refl, Int.cast_ofNat_Int, Try.f50, ownT]
noncomputable def xoOwn : List TV → Option TV
  | [] => some (ownT)
  | _ => none
theorem xoOwn_ok : ∀ xs r, xoOwn xs = some r → PCalls Try.prog 50 xs r := by
  intro xs r h
  unfold xoOwn at h
  split at h
  · cases h; exact oOwn_c
  · cases h
attribute [go_sem] xoOwn
def sunsT : TV := .sl [.int .i64 1915, .int .i64 1865, .int .i64 1912, .int .i64 1862] 2 true
theorem oSuns_c : PCalls Try.prog 51 [] sunsT := by
  refine pcalls_by Try.mixes spO2_ok (fn := Try.f51) Try.func51 rfl (by kernel_rfl) (by show 0 ≤ _; decide) ?_
  simp (decide := true) (maxSteps := 4000000) only [go_sem, Nat.reduceAdd, Nat.reduceSub, Nat.reduceMul, Nat.reduceDiv, Nat.reduceMod, Nat.reduceLT, Nat.reduceLeDiff, Nat.reduceEqDiff, Nat.reduceBEq, Nat.reduceBNe, Nat.reduceGT, Int.reduceAdd, Int.reduceSub, Int.reduceMul, Int.reduceNeg, Int.reduceLT, Int.reduceLE, Int.reduceEq, Int.reduceNe, Int.reduceBEq, Int.reduceBNe, Int.reduceToNat, Int.reduceGT, Int.reduceGE, ↓reduceIte, decide_true, decide_false, eq_self, Nat.mul_one, Nat.zero_mul, Nat.one_mul, Int.le_refl, Nat.le_refl, Int.cast_ofNat_Int, Try.f51, sunsT]
noncomputable def xoSuns : List TV → Option TV
  | [] => some (sunsT)
  | _ => none
theorem xoSuns_ok : ∀ xs r, xoSuns xs = some r → PCalls Try.prog 51 xs r := by
  intro xs r h
  unfold xoSuns at h
  split at h
  · cases h; exact oSuns_c
  · cases h
attribute [go_sem] xoSuns
theorem oTrial_c (a b : Int) : PCalls Try.prog 52 [.int .i64 a, .int .i64 b] (.agg [.int .i64 a, .int .i64 0, .int .i64 b]) := by
  refine pcalls_by Try.mixes spO2_ok (fn := Try.f52) Try.func52 rfl (by kernel_rfl) (by show 2 ≤ _; decide) ?_
  simp (decide := true) (maxSteps := 4000000) only [go_sem, Nat.reduceAdd, Nat.reduceSub, Nat.reduceMul, Nat.reduceDiv, Nat.reduceMod, Nat.reduceLT, Nat.reduceLeDiff, Nat.reduceEqDiff, Nat.reduceBEq, Nat.reduceBNe, Nat.reduceGT, Int.reduceAdd, Int.reduceSub, Int.reduceMul, Int.reduceNeg, Int.reduceLT, Int.reduceLE, Int.reduceEq, Int.reduceNe, Int.reduceBEq, Int.reduceBNe, Int.reduceToNat, Int.reduceGT, Int.reduceGE, ↓reduceIte, decide_true, decide_false, eq_self, Nat.mul_one, Nat.zero_mul, Nat.one_mul, Int.le_refl, Nat.le_refl, Int.cast_ofNat_Int, Try.f52]
noncomputable def xoTrial : List TV → Option TV
  | [.int .i64 a, .int .i64 b] => some (.agg [.int .i64 a, .int .i64 0, .int .i64 b])
  | _ => none
theorem xoTrial_ok : ∀ xs r, xoTrial xs = some r → PCalls Try.prog 52 xs r := by
  intro xs r h
  unfold xoTrial at h
  split at h
  · cases h; exact oTrial_c _ _
  · cases h
attribute [go_sem] xoTrial
noncomputable def spO3 : Pm.Spec := spO2.one 52 xoTrial
@[go_sem] theorem spO3_p (f : FuncId) (xs : List TV) : spO3.p f xs = Pm.Spec.p (spO2.one 52 xoTrial) f xs := rfl
@[go_sem] theorem spO3_h (f : FuncId) (ps : List PV) (hl : List PO) : spO3.h f ps hl = Pm.Spec.h (spO2.one 52 xoTrial) f ps hl := rfl
@[go_sem] theorem spO3_fz (f : FuncId) : spO3.fz f = Pm.Spec.fz (spO2.one 52 xoTrial) f := rfl
@[go_sem] theorem spO3_fr (f : FuncId) : spO3.fr f = Pm.Spec.fr (spO2.one 52 xoTrial) f := rfl
@[go_sem] theorem spO3_mu (t : TypeId) : spO3.mu t = Pm.Spec.mu (spO2.one 52 xoTrial) t := rfl
@[go_sem] theorem spO3_nf (t : TypeId) : spO3.nf t = Pm.Spec.nf (spO2.one 52 xoTrial) t := rfl
theorem spO3_ok : SpecOk Try.prog spO3 := Spec.one_ok xoTrial_ok spO2_ok
def trialsT : TV := .sl [.int .i64 36000, .int .i64 0, .int .i64 35985, .int .i64 72000, .int .i64 0, .int .i64 72010, .int .i64 36000, .int .i64 0, .int .i64 35960] 3 true
theorem oTrials_c : PCalls Try.prog 53 [] trialsT := by
  refine pcalls_by Try.mixes spO3_ok (fn := Try.f53) Try.func53 rfl (by kernel_rfl) (by show 0 ≤ _; decide) ?_
  simp (decide := true) (maxSteps := 4000000) only [go_sem, Nat.reduceAdd, Nat.reduceSub, Nat.reduceMul, Nat.reduceDiv, Nat.reduceMod, Nat.reduceLT, Nat.reduceLeDiff, Nat.reduceEqDiff, Nat.reduceBEq, Nat.reduceBNe, Nat.reduceGT, Int.reduceAdd, Int.reduceSub, Int.reduceMul, Int.reduceNeg, Int.reduceLT, Int.reduceLE, Int.reduceEq, Int.reduceNe, Int.reduceBEq, Int.reduceBNe, Int.reduceToNat, Int.reduceGT, Int.reduceGE, ↓reduceIte, decide_true, decide_false, eq_self, Nat.mul_one, Nat.zero_mul, Nat.one_mul, Int.le_refl, Nat.le_refl, Int.cast_ofNat_Int, Try.f53, trialsT]
noncomputable def xoTrials : List TV → Option TV
  | [] => some (trialsT)
  | _ => none
theorem xoTrials_ok : ∀ xs r, xoTrials xs = some r → PCalls Try.prog 53 xs r := by
  intro xs r h
  unfold xoTrials at h
  split at h
  · cases h; exact oTrials_c
  · cases h
attribute [go_sem] xoTrials
def stockT : TV := .sl [.int .i64 0, .int .i64 50, rw2 0 4 0 10, .int .i64 0, .int .i64 30, rw2 (-3) 3 (-12) 12, .int .i64 1, .int .i64 20, rw2 0 0 2 6, .int .i64 2, .int .i64 10, rw2 (-2) 2 (-2) 2, .int .i64 2, .int .i64 25, rw2 0 1 0 1] 5 true
theorem oStock_c : PCalls Try.prog 54 [] stockT := by
  refine pcalls_by Try.mixes spO3_ok (fn := Try.f54) Try.func54 rfl (by kernel_rfl) (by show 0 ≤ _; decide) ?_
  simp (decide := true) (maxSteps := 4000000) only [go_sem, Nat.reduceAdd, Nat.reduceSub, Nat.reduceMul, Nat.reduceDiv, Nat.reduceMod, Nat.reduceLT, Nat.reduceLeDiff, Nat.reduceEqDiff, Nat.reduceBEq, Nat.reduceBNe, Nat.reduceGT, Int.reduceAdd, Int.reduceSub, Int.reduceMul, Int.reduceNeg, Int.reduceLT, Int.reduceLE, Int.reduceEq, Int.reduceNe, Int.reduceBEq, Int.reduceBNe, Int.reduceToNat, Int.reduceGT, Int.reduceGE, ↓reduceIte, decide_true, decide_false, eq_self, Nat.mul_one, Nat.zero_mul, Nat.one_mul, Int.le_refl, Nat.le_refl, Int.cast_ofNat_Int, Try.f54, stockT, rw2]
noncomputable def xoStock : List TV → Option TV
  | [] => some (stockT)
  | _ => none
theorem xoStock_ok : ∀ xs r, xoStock xs = some r → PCalls Try.prog 54 xs r := by
  intro xs r h
  unfold xoStock at h
  split at h
  · cases h; exact oStock_c
  · cases h
attribute [go_sem] xoStock
noncomputable def spO4 : Pm.Spec := (((spO3.one 50 xoOwn).one 51 xoSuns).one 53 xoTrials).one 54 xoStock
@[go_sem] theorem spO4_p (f : FuncId) (xs : List TV) : spO4.p f xs = Pm.Spec.p ((((spO3.one 50 xoOwn).one 51 xoSuns).one 53 xoTrials).one 54 xoStock) f xs := rfl
@[go_sem] theorem spO4_h (f : FuncId) (ps : List PV) (hl : List PO) : spO4.h f ps hl = Pm.Spec.h ((((spO3.one 50 xoOwn).one 51 xoSuns).one 53 xoTrials).one 54 xoStock) f ps hl := rfl
@[go_sem] theorem spO4_fz (f : FuncId) : spO4.fz f = Pm.Spec.fz ((((spO3.one 50 xoOwn).one 51 xoSuns).one 53 xoTrials).one 54 xoStock) f := rfl
@[go_sem] theorem spO4_fr (f : FuncId) : spO4.fr f = Pm.Spec.fr ((((spO3.one 50 xoOwn).one 51 xoSuns).one 53 xoTrials).one 54 xoStock) f := rfl
@[go_sem] theorem spO4_mu (t : TypeId) : spO4.mu t = Pm.Spec.mu ((((spO3.one 50 xoOwn).one 51 xoSuns).one 53 xoTrials).one 54 xoStock) t := rfl
@[go_sem] theorem spO4_nf (t : TypeId) : spO4.nf t = Pm.Spec.nf ((((spO3.one 50 xoOwn).one 51 xoSuns).one 53 xoTrials).one 54 xoStock) t := rfl
theorem spO4_ok : SpecOk Try.prog spO4 := Spec.one_ok xoStock_ok (Spec.one_ok xoTrials_ok (Spec.one_ok xoSuns_ok (Spec.one_ok xoOwn_ok spO3_ok)))
theorem oWorks_c : PCalls Try.prog 21 [] (.bool true) := by
  have e1 : unS [.int .i64 0, .int .i64 0, .int .i64 (-10), .int .i64 10, .int .i64 20, .int .i64 40] = some [⟨0, 0⟩, ⟨-10, 10⟩, ⟨20, 40⟩] := unS_eq [⟨0, 0⟩, ⟨-10, 10⟩, ⟨20, 40⟩]
  have e2 : unS [.int .i64 0, .int .i64 6, .int .i64 (-4), .int .i64 4] = some [⟨0, 6⟩, ⟨-4, 4⟩] := unS_eq [⟨0, 6⟩, ⟨-4, 4⟩]
  have e3 : unSun [.int .i64 1915, .int .i64 1865, .int .i64 1912, .int .i64 1862] = some [⟨1915, 1865⟩, ⟨1912, 1862⟩] := unSun_eq [⟨1915, 1865⟩, ⟨1912, 1862⟩]
  have e4 : unTr [.int .i64 36000, .int .i64 0, .int .i64 35985, .int .i64 72000, .int .i64 0, .int .i64 72010] = some (trialsX.take 2) := unTr_eq (trialsX.take 2)
  have e5 : unTr [.int .i64 36000, .int .i64 0, .int .i64 35985, .int .i64 72000, .int .i64 0, .int .i64 72010, .int .i64 36000, .int .i64 0, .int .i64 35960] = some trialsX := unTr_eq trialsX
  have e6 : unP [.int .i64 0, .int .i64 50, rw2 0 4 0 10, .int .i64 0, .int .i64 30, rw2 (-3) 3 (-12) 12, .int .i64 1, .int .i64 20, rw2 0 0 2 6, .int .i64 2, .int .i64 10, rw2 (-2) 2 (-2) 2, .int .i64 2, .int .i64 25, rw2 0 1 0 1] = some stockX := unP_eq stockX
  have eo : Sx.mk 36000 [⟨0, 0⟩, ⟨-10, 10⟩, ⟨20, 40⟩] ⟨-30, -20⟩ 5 [⟨0, 6⟩, ⟨-4, 4⟩] = ownX := rfl
  have es : [(⟨1915, 1865⟩ : Sun), ⟨1912, 1862⟩] = sunsX := rfl
  have l1 : (trialsX.take 2).length = 2 := rfl
  have l2 : trialsX.length = 3 := rfl
  have l3 : stockX.length = 5 := rfl
  have e7 : unS [.int .i64 0, .int .i64 0, .int .i64 0, .int .i64 10, .int .i64 25, .int .i64 40] = some [⟨0, 0⟩, ⟨0, 10⟩, ⟨25, 40⟩] := unS_eq [⟨0, 0⟩, ⟨0, 10⟩, ⟨25, 40⟩]
  have r1 : rowF1 [⟨0, 0⟩, ⟨0, 10⟩, ⟨25, 40⟩] = .sl [.int .i64 0, .int .i64 0, .int .i64 0, .int .i64 10, .int .i64 25, .int .i64 40] 3 true := rfl
  have r2 : rowI (nI [0, 2]) = .sl [.int .i64 0, .int .i64 2] 2 false := rfl
  have e8 : unI [.int .i64 0, .int .i64 2] = some [0, 2] := unI_eq [0, 2]
  have e9 : unI [.int .i64 1, .int .i64 2, .int .i64 3] = some [1, 2, 3] := unI_eq [1, 2, 3]
  refine pcalls_by Try.mixes spO4_ok (fn := Try.f21) Try.func21 rfl (by kernel_rfl) (by show 0 ≤ _; decide) ?_
  simp (decide := true) (maxSteps := 4000000) only [go_sem, Nat.reduceAdd, Nat.reduceSub, Nat.reduceMul, Nat.reduceDiv, Nat.reduceMod, Nat.reduceLT, Nat.reduceLeDiff, Nat.reduceEqDiff, Nat.reduceBEq, Nat.reduceBNe, Nat.reduceGT, Int.reduceAdd, Int.reduceSub, Int.reduceMul, Int.reduceNeg, Int.reduceLT, Int.reduceLE, Int.reduceEq, Int.reduceNe, Int.reduceBEq, Int.reduceBNe, Int.reduceToNat, Int.reduceGT, Int.reduceGE, ↓reduceIte, decide_true, decide_false, eq_self, Nat.mul_one, Nat.zero_mul, Nat.one_mul, Int.le_refl, Nat.le_refl, Int.cast_ofNat_Int, Try.f21, ownT, sunsT, trialsT, stockT, e1, e2, e3, e4, e5, e6, e7, e8, e9, eo, es, l1, l2, l3, r1, r2, exRead, exIndex, exTrial, exFalse, exClass, exStock, exAsm, List.length_cons, List.length_nil, Span.t, Span.cs]
  done
noncomputable def xoWorks : List TV → Option TV
  | [] => some (.bool true)
  | _ => none
theorem xoWorks_ok : ∀ xs r, xoWorks xs = some r → PCalls Try.prog 21 xs r := by
  intro xs r h
  unfold xoWorks at h
  split at h
  · cases h; exact oWorks_c
  · cases h
attribute [go_sem] xoWorks
noncomputable def spO5 : Pm.Spec := spO2.one 21 xoWorks
@[go_sem] theorem spO5_p (f : FuncId) (xs : List TV) : spO5.p f xs = Pm.Spec.p (spO2.one 21 xoWorks) f xs := rfl
@[go_sem] theorem spO5_h (f : FuncId) (ps : List PV) (hl : List PO) : spO5.h f ps hl = Pm.Spec.h (spO2.one 21 xoWorks) f ps hl := rfl
@[go_sem] theorem spO5_fz (f : FuncId) : spO5.fz f = Pm.Spec.fz (spO2.one 21 xoWorks) f := rfl
@[go_sem] theorem spO5_fr (f : FuncId) : spO5.fr f = Pm.Spec.fr (spO2.one 21 xoWorks) f := rfl
@[go_sem] theorem spO5_mu (t : TypeId) : spO5.mu t = Pm.Spec.mu (spO2.one 21 xoWorks) t := rfl
@[go_sem] theorem spO5_nf (t : TypeId) : spO5.nf t = Pm.Spec.nf (spO2.one 21 xoWorks) t := rfl
theorem spO5_ok : SpecOk Try.prog spO5 := Spec.one_ok xoWorks_ok spO2_ok
end Go.Proofs.Ytjmkccckohcfkaa

/- Part Suh. -/
namespace Go.Os
open Go Go.Pm Go.Oc Go.Oh
/-- What lies between the ends of a span, no more (or nothing does). -/
def Hull (e : Bool) (s : Span) (Q : Int → Prop) : Prop := (e = true ∧ ∀ z, ¬ Q z) ∨ (e = false ∧ Q s.lo ∧ Q s.hi ∧ ∀ z, Q z → s.lo ≤ z ∧ z ≤ s.hi)
theorem widerS_t (s : Span) (n : Int) : widerS s n true = ⟨n, n⟩ := rfl
theorem widerS_f (s : Span) (n : Int) : widerS s n false = ⟨min s.lo n, max s.hi n⟩ := rfl
theorem hull_same {e : Bool} {s : Span} {Q Q' : Int → Prop} (h : Hull e s Q) (hq : ∀ z, Q' z ↔ Q z) : Hull e s Q' := by
  have : Q' = Q := funext fun z => propext (hq z)
  rw [this]; exact h
theorem hull_add {e : Bool} {s : Span} {Q : Int → Prop} (h : Hull e s Q) (n : Int) : Hull false (widerS s n e) (fun z => Q z ∨ z = n) := by
  rcases h with ⟨rfl, h⟩ | ⟨rfl, h1, h2, h3⟩
  · rw [widerS_t]
    exact .inr ⟨rfl, .inr rfl, .inr rfl, fun z hz => by rcases hz with hz | rfl; exact absurd hz (h z); simp⟩
  · rw [widerS_f]
    refine .inr ⟨rfl, ?_, ?_, fun z hz => ?_⟩
    · simp only
      by_cases c : s.lo ≤ n
      · rw [show min s.lo n = s.lo by omega]; exact .inl h1
      · rw [show min s.lo n = n by omega]; exact .inr rfl
    · simp only
      by_cases c : n ≤ s.hi
      · rw [show max s.hi n = s.hi by omega]; exact .inl h2
      · rw [show max s.hi n = n by omega]; exact .inr rfl
    · simp only
      rcases hz with hz | rfl
      · have := h3 z hz; omega
      · omega
theorem hull_span {e : Bool} {s : Span} {Q : Int → Prop} (h : Hull e s Q) {lo hi : Int} (hl : lo ≤ hi) : Hull false (widerS (widerS s lo e) hi false) (fun z => Q z ∨ (lo ≤ z ∧ z ≤ hi)) := by
  have h1 := hull_add (hull_add h lo) hi
  rcases h1 with ⟨he, _⟩ | ⟨_, a, b, c⟩
  · cases he
  · refine .inr ⟨rfl, ?_, ?_, fun z hz => ?_⟩
    · rcases a with (a | a) | a
      · exact .inl a
      · exact .inr (by omega)
      · exact .inr (by omega)
    · rcases b with (b | b) | b
      · exact .inl b
      · exact .inr (by omega)
      · exact .inr (by omega)
    · rcases hz with hz | hz
      · exact c z (.inl (.inl hz))
      · have u := c lo (.inl (.inr rfl)); have v := c hi (.inr rfl); omega
theorem hull_one {e e' : Bool} {s s' : Span} {Q : Int → Prop} (h : Hull e s Q) (h' : Hull e' s' Q) : e = e' ∧ (e = false → s = s') := by
  rcases h with ⟨rfl, h⟩ | ⟨rfl, h1, h2, h3⟩ <;> rcases h' with ⟨rfl, h'⟩ | ⟨rfl, h1', h2', h3'⟩
  · exact ⟨rfl, fun h => (by cases h)⟩
  · exact absurd h1' (h _)
  · exact absurd h1 (h' _)
  · refine ⟨rfl, fun _ => ?_⟩
    obtain ⟨a, b⟩ := s; obtain ⟨c, d⟩ := s'
    have u := h3 _ h1'; have v := h3 _ h2'; have w := h3' _ h1; have t := h3' _ h2
    simp only at *
    rw [show a = c by omega, show b = d by omega]
end Go.Os

/- Part Og. -/
namespace Go.Os
open Go Go.Pm Go.Oc Go.Oh
theorem false_opened {x : Sx} {l : List Tr} (hE : openedE x l = 0) : sxOk x = true ∧ l.all (trB x) = true ∧ 1 ≤ l.length ∧ l.length ≤ 8 := by
  unfold openedE at hE
  cases hv : sxOk x with
  | false => rw [hv] at hE; cases hE
  | true =>
    rw [hv, if_pos rfl] at hE
    cases ht : trsOk x l with
    | false => rw [ht] at hE; cases hE
    | true =>
      unfold trsOk at ht
      rw [Bool.and_eq_true, inB_iff] at ht
      exact ⟨rfl, ht.2, by omega, by omega⟩
theorem atN_some {x : Sx} (h : GoodS x) {L : List Tr} (hl : L.all (trB x) = true) (h1 : 1 ≤ L.length) : noAt x L = false := by
  cases L with
  | nil => simp at h1
  | cons p L =>
    have hp := List.all_eq_true.1 hl p (by simp)
    have hk := (trK_lt h hp).1
    unfold noAt
    rw [Bool.not_eq_false', List.any_eq_true]
    exact ⟨trK x p, List.mem_range.2 hk, by unfold atN; simp⟩
/-- Trial says whether trials can be made. -/
theorem trial_can {x : Sx} {L : List Tr} (hE : openedE x L = 0) : (canB x L = true → (trialP x L).2.2 = 0) ∧ (canB x L = false → trialP x L = ([], ⟨0, 0⟩, 54)) := by
  obtain ⟨hv, hl, h1, _⟩ := false_opened hE
  have hn := atN_some (sxOk_iff.1 hv) hl h1
  unfold canB trialP
  rw [if_pos hE, hn, Bool.false_or, tabsV_len]
  constructor
  · intro hh
    rw [decide_eq_true_eq] at hh
    rw [if_neg (by omega)]
  · intro hh
    rw [decide_eq_false_iff_not] at hh
    rw [if_pos (by omega)]
theorem sel_opened {x : Sx} {l : List Tr} (hE : openedE x l = 0) {S : List Nat} (hS : rowN l.length S) (hne : S ≠ []) : openedE x (selA l S) = 0 := by
  obtain ⟨hv, hl, h1, h8⟩ := false_opened hE
  have hlen := selA_len (l := l) (S := S) (rowN_iff.1 hS).2
  have hSl := rowN_len hS
  have hpos := List.length_pos_iff.2 hne
  unfold openedE trsOk
  rw [hv, if_pos rfl, trs_sel hl S, inB_iff.2 (by omega)]; rfl
theorem trial_sel {x : Sx} {l : List Tr} (hE : openedE x l = 0) {S : List Nat} (hS : rowN l.length S) (hne : S ≠ []) : (trialP x (selA l S)).2.2 = if badC x l S then 54 else 0 := by
  obtain ⟨a, b⟩ := trial_can (sel_opened hE hS hne)
  unfold badC
  cases hc : canB x (selA l S) with
  | true => rw [a hc]; rfl
  | false => rw [b hc]; rfl
/-- What False and Trial say of the same trials. -/
theorem false_cases (x : Sx) (l : List Tr) : (∃ e, openedE x l = e ∧ e ≠ 0 ∧ e ≠ 4 ∧ falseP x l = ([], e) ∧ trialP x l = ([], ⟨0, 0⟩, e)) ∨ (openedE x l = 0 ∧ falseP x l = ([], 4) ∧ (trialP x l).2.2 = 0) ∨
    (openedE x l = 0 ∧ ∃ S, Least (badC x l) l.length S ∧ falseP x l = (S, 0) ∧ trialP x l = ([], ⟨0, 0⟩, 54)) := by
  by_cases hE : openedE x l = 0
  · right
    have hf : falseP x l = if canB x l then ([], 4) else ((falT l.length (badC x l) l.length).2, 0) := by unfold falseP; rw [if_pos hE]
    obtain ⟨a, b⟩ := trial_can hE
    obtain ⟨hv, hl, h1, h8⟩ := false_opened hE
    cases hc : canB x l with
    | true => exact .inl ⟨hE, by rw [hf, hc]; rfl, a hc⟩
    | false =>
      refine .inr ⟨hE, ?_⟩
      rcases searches (badC x l) l.length with ⟨_, _, e3⟩ | ⟨e1, S, hS, e2, e3⟩
      · have := e3 (List.range l.length) (row_all _) (by intro e; have := congrArg List.length e; simp at this; rw [this] at h1; simp at h1)
        unfold badC at this
        rw [selA_range, hc] at this
        cases this
      · exact ⟨S, hS, by rw [hf, hc, e2]; rfl, b hc⟩
  · left
    refine ⟨_, rfl, hE, ?_, by unfold falseP; rw [if_neg hE], by unfold trialP; rw [if_neg hE]⟩
    unfold openedE
    split
    · split <;> decide
    · decide
end Go.Os
namespace Go.Proofs.Ytjmkccckohcfkaa
open Go.RowKit Go.Pm Go.Oc Go.Oh Go.Os
set_option maxRecDepth 100000
set_option linter.unusedVariables false
set_option maxHeartbeats 8000000

theorem oSome_c {l : List Tr} (g : Bool) (hl : l.length ≤ 8) (S : List Nat) (g' : Bool) (hS : ∀ y ∈ S, y < l.length) (hS8 : S.length ≤ 8) : PCalls Try.prog 45 [.sl (l.flatMap Tr.cs) l.length g, .sl (ints (nI S)) S.length g'] (if S.length = 0 then .nilSl else .sl ((selA l S).flatMap Tr.cs) S.length false) := by
  refine pcalls_by Try.mixes noSpec_ok (fn := Try.f45) Try.func45 rfl (by kernel_rfl) (by show 2 ≤ _; decide) ?_
  simp (decide := true) (maxSteps := 4000000) only [go_sem, Nat.reduceAdd, Nat.reduceSub, Nat.reduceMul, Nat.reduceDiv, Nat.reduceMod, Nat.reduceLT, Nat.reduceLeDiff, Nat.reduceEqDiff, Nat.reduceBEq, Nat.reduceBNe, Nat.reduceGT, Int.reduceAdd, Int.reduceSub, Int.reduceMul, Int.reduceNeg, Int.reduceLT, Int.reduceLE, Int.reduceEq, Int.reduceNe, Int.reduceBEq, Int.reduceBNe, Int.reduceToNat, Int.reduceGT, Int.reduceGE, ↓reduceIte, decide_true, decide_false, eq_self, Nat.mul_one, Nat.zero_mul, Nat.one_mul, Int.le_refl, Nat.le_refl, Int.cast_ofNat_Int, Try.f45]
  refine pwpC_loopU (A := { k : Nat // k ≤ S.length }) [0, 1, 4] (fun k => [(6, .t (.int .i64 k.1)), (5, .own ((selA l (S.take k.1)).flatMap Tr.cs) k.1 0)]) (fun k => [(0, .tok k.1 84)]) (fun k => S.length - k.1) ⟨0, by omega⟩ (by decide) (fun _ => by rfl) ?_ fun Q1 hQ1 ⟨k, hk⟩ I1 hI1 => ?_
  · simp (decide := true) (maxSteps := 4000000) only [go_sem, Nat.reduceAdd, Nat.reduceSub, Nat.reduceMul, Nat.reduceDiv, Nat.reduceMod, Nat.reduceLT, Nat.reduceLeDiff, Nat.reduceEqDiff, Nat.reduceBEq, Nat.reduceBNe, Nat.reduceGT, Int.reduceAdd, Int.reduceSub, Int.reduceMul, Int.reduceNeg, Int.reduceLT, Int.reduceLE, Int.reduceEq, Int.reduceNe, Int.reduceBEq, Int.reduceBNe, Int.reduceToNat, Int.reduceGT, Int.reduceGE, ↓reduceIte, decide_true, decide_false, eq_self, Nat.mul_one, Nat.zero_mul, Nat.one_mul, Int.le_refl, Nat.le_refl, Int.cast_ofNat_Int, selA, List.take_zero, List.filterMap_nil]
  · by_cases hlt : (k : Int) < S.length
    · obtain ⟨i, hi⟩ := get_lt hlt
      have hil := hS i (List.mem_of_getElem? hi)
      obtain ⟨p, hp⟩ := get_lt (l := l) (k := i) (by omega)
      have hd := ints_at hi
      have hdl := flat_at Tr.cs (n := 3) (fun _ => rfl) hp
      have hc1 : IntKind.i64.wrap (k + 1) = ((k + 1 : Nat) : Int) := by rw [wrap_in (by omega) (by omega)]; omega
      have hil' : (i : Int) < l.length := by omega
      have hsel := selA_take hi hp
      have hfl : (List.flatMap Tr.cs (selA l (S.take k))).length = k * 3 := by
        rw [flat_len Tr.cs (n := 3) (fun _ => rfl), selA_len (fun y hy => hS y (List.mem_of_mem_take hy)), List.length_take]
        congr 1; omega
      have hr : (k + 1) * 24 ≤ 140737488355328 := by omega
      simp (decide := true) (maxSteps := 4000000) only [go_sem, Nat.reduceAdd, Nat.reduceSub, Nat.reduceMul, Nat.reduceDiv, Nat.reduceMod, Nat.reduceLT, Nat.reduceLeDiff, Nat.reduceEqDiff, Nat.reduceBEq, Nat.reduceBNe, Nat.reduceGT, Int.reduceAdd, Int.reduceSub, Int.reduceMul, Int.reduceNeg, Int.reduceLT, Int.reduceLE, Int.reduceEq, Int.reduceNe, Int.reduceBEq, Int.reduceBNe, Int.reduceToNat, Int.reduceGT, Int.reduceGE, ↓reduceIte, decide_true, decide_false, eq_self, Nat.mul_one, Nat.zero_mul, Nat.one_mul, Int.le_refl, Nat.le_refl, Int.cast_ofNat_Int, hlt, hd, hdl, hil', Int.toNat_natCast, Tr.cs, hfl, hr]
      refine hI1 _ ⟨k + 1, by omega⟩ (by simp only; omega) ?_
      simp (decide := true) (maxSteps := 4000000) only [go_sem, Nat.reduceAdd, Nat.reduceSub, Nat.reduceMul, Nat.reduceDiv, Nat.reduceMod, Nat.reduceLT, Nat.reduceLeDiff, Nat.reduceEqDiff, Nat.reduceBEq, Nat.reduceBNe, Nat.reduceGT, Int.reduceAdd, Int.reduceSub, Int.reduceMul, Int.reduceNeg, Int.reduceLT, Int.reduceLE, Int.reduceEq, Int.reduceNe, Int.reduceBEq, Int.reduceBNe, Int.reduceToNat, Int.reduceGT, Int.reduceGE, ↓reduceIte, decide_true, decide_false, eq_self, Nat.mul_one, Nat.zero_mul, Nat.one_mul, Int.le_refl, Nat.le_refl, Int.cast_ofNat_Int, hc1, hsel, List.flatMap_append, Tr.cs]
    · have hke : k = S.length := by omega
      subst hke
      simp (decide := true) (maxSteps := 4000000) only [go_sem, Nat.reduceAdd, Nat.reduceSub, Nat.reduceMul, Nat.reduceDiv, Nat.reduceMod, Nat.reduceLT, Nat.reduceLeDiff, Nat.reduceEqDiff, Nat.reduceBEq, Nat.reduceBNe, Nat.reduceGT, Int.reduceAdd, Int.reduceSub, Int.reduceMul, Int.reduceNeg, Int.reduceLT, Int.reduceLE, Int.reduceEq, Int.reduceNe, Int.reduceBEq, Int.reduceBNe, Int.reduceToNat, Int.reduceGT, Int.reduceGE, ↓reduceIte, decide_true, decide_false, eq_self, Nat.mul_one, Nat.zero_mul, Nat.one_mul, Int.le_refl, Nat.le_refl, Int.cast_ofNat_Int, hlt]
      refine hQ1 _ _ ?_
      rw [List.take_length]
      simp (decide := true) (maxSteps := 4000000) only [go_sem, Nat.reduceAdd, Nat.reduceSub, Nat.reduceMul, Nat.reduceDiv, Nat.reduceMod, Nat.reduceLT, Nat.reduceLeDiff, Nat.reduceEqDiff, Nat.reduceBEq, Nat.reduceBNe, Nat.reduceGT, Int.reduceAdd, Int.reduceSub, Int.reduceMul, Int.reduceNeg, Int.reduceLT, Int.reduceLE, Int.reduceEq, Int.reduceNe, Int.reduceBEq, Int.reduceBNe, Int.reduceToNat, Int.reduceGT, Int.reduceGE, ↓reduceIte, decide_true, decide_false, eq_self, Nat.mul_one, Nat.zero_mul, Nat.one_mul, Int.le_refl, Nat.le_refl, Int.cast_ofNat_Int]
noncomputable def xoSome : List TV → Option TV
  | [.sl cs n f, .sl cs' n' f'] => match unTr cs, unI cs' with
    | some l, some a => if n = l.length ∧ n' = a.length ∧ l.length ≤ 8 ∧ nI (toN a) = a ∧ rowB l.length (toN a) = true then some (if (toN a).length = 0 then .nilSl else .sl ((selA l (toN a)).flatMap Tr.cs) (toN a).length false) else none
    | _, _ => none
  | _ => none
theorem xoSome_ok : ∀ xs r, xoSome xs = some r → PCalls Try.prog 45 xs r := by
  intro xs r h
  unfold xoSome at h
  split at h
  · rename_i cs n f1 cs2 n2 f2
    split at h
    · rename_i l a hl ha
      split at h
      · rename_i hc; cases h
        have e1 := unTr_some hl
        have e2 := unI_some ha
        rw [ic_ints] at e2
        obtain ⟨rfl, rfl, h1, h2, h3⟩ := hc
        have h3 := rowB_of h3
        have := oSome_c (l := l) f1 h1 (toN a) f2 (rowN_iff.1 h3).2 (by have := rowN_len h3; omega)
        rw [h2, show (toN a).length = a.length from List.length_map _] at this
        rw [e1, e2, show (toN a).length = a.length from List.length_map _]
        exact this
      · cases h
    · cases h
  · cases h
attribute [go_sem] xoSome
noncomputable def spOg : Pm.Spec := spO5.one 45 xoSome
@[go_sem] theorem spOg_p (f : FuncId) (xs : List TV) : spOg.p f xs = Pm.Spec.p (spO5.one 45 xoSome) f xs := rfl
@[go_sem] theorem spOg_h (f : FuncId) (ps : List PV) (hl : List PO) : spOg.h f ps hl = Pm.Spec.h (spO5.one 45 xoSome) f ps hl := rfl
@[go_sem] theorem spOg_fz (f : FuncId) : spOg.fz f = Pm.Spec.fz (spO5.one 45 xoSome) f := rfl
@[go_sem] theorem spOg_fr (f : FuncId) : spOg.fr f = Pm.Spec.fr (spO5.one 45 xoSome) f := rfl
@[go_sem] theorem spOg_mu (t : TypeId) : spOg.mu t = Pm.Spec.mu (spO5.one 45 xoSome) t := rfl
@[go_sem] theorem spOg_nf (t : TypeId) : spOg.nf t = Pm.Spec.nf (spO5.one 45 xoSome) t := rfl
theorem spOg_ok : SpecOk Try.prog spOg := Spec.one_ok xoSome_ok spO5_ok
theorem SextantAccused_c (x : Sx) {sT sS : TV} (hT : IsRow Span.cs sT x.tab) (hS' : IsRow Span.cs sS x.shade) (lT : x.tab.length ≤ 9000000000000) (lS : x.shade.length ≤ 9000000000000) {l : List Tr} {s : TV} (hs : IsRow Tr.cs s l) (ll : l.length ≤ 9000000000000) (set : Int) : PCalls Try.prog 11 [x.t sT sS, s, .int .i64 set] (.bool true) := by
  have rT := rowS_is hT
  have rS := rowS_is hS'
  unfold rowL at rT rS
  simp only [unS_nil] at rT rS
  have e0 : Sx.mk x.step x.tab ⟨x.idx.lo, x.idx.hi⟩ x.wrong x.shade = x := rfl
  have n0 : rowI (nI []) = .nilSl := rfl
  have n1 : rowF1 [] = .nilSl := rfl
  refine pcalls_by Try.mixes spOg_ok (fn := Try.f11) Try.func11 rfl (by kernel_rfl) (by show 3 ≤ _; decide) ?_
  rcases false_cases x l with ⟨e, hE, he0, he4, hf, ht⟩ | ⟨hE, hf, ht⟩ | ⟨hE, S, hS, hf, ht⟩
  · have b0 : (e != 0) = true := by simpa using he0
    have b4 : (e == 4) = false := beq_int_f he4
    rcases hs with ⟨rfl, rfl⟩ | ⟨g, rfl⟩ <;> simp (decide := true) (maxSteps := 4000000) only [go_sem, Nat.reduceAdd, Nat.reduceSub, Nat.reduceMul, Nat.reduceDiv, Nat.reduceMod, Nat.reduceLT, Nat.reduceLeDiff, Nat.reduceEqDiff, Nat.reduceBEq, Nat.reduceBNe, Nat.reduceGT, Int.reduceAdd, Int.reduceSub, Int.reduceMul, Int.reduceNeg, Int.reduceLT, Int.reduceLE, Int.reduceEq, Int.reduceNe, Int.reduceBEq, Int.reduceBNe, Int.reduceToNat, Int.reduceGT, Int.reduceGE, ↓reduceIte, decide_true, decide_false, eq_self, Nat.mul_one, Nat.zero_mul, Nat.one_mul, Int.le_refl, Nat.le_refl, Int.cast_ofNat_Int, Try.f11, Sx.t, Sx.cs, rT, rS, lT, lS, ll, unTr_eq, unTr_nil, e0, hf, ht, n0, n1, b0, b4, Span.t, Span.cs, List.length_nil, beq_self_eq_true, Bool.true_or, Bool.false_and, Bool.and_self, Bool.true_and, Bool.false_or]
  · obtain ⟨hv, hlb, h1, h8⟩ := false_opened hE
    obtain ⟨g, rfl⟩ := hs.ne (by omega)
    obtain ⟨T, hTT⟩ : ∃ T, trialP x l = T := ⟨_, rfl⟩
    rw [hTT] at ht
    obtain ⟨T1, T2, T3⟩ := T
    simp only at ht
    subst ht
    have hb8 : ¬ (l.length : Int) > 8 := by omega
    by_cases hz : T1.length = 0
    · have hrF : rowF1 T1 = .nilSl := by unfold rowF1; rw [if_pos hz]
      simp (decide := true) (maxSteps := 4000000) only [go_sem, Nat.reduceAdd, Nat.reduceSub, Nat.reduceMul, Nat.reduceDiv, Nat.reduceMod, Nat.reduceLT, Nat.reduceLeDiff, Nat.reduceEqDiff, Nat.reduceBEq, Nat.reduceBNe, Nat.reduceGT, Int.reduceAdd, Int.reduceSub, Int.reduceMul, Int.reduceNeg, Int.reduceLT, Int.reduceLE, Int.reduceEq, Int.reduceNe, Int.reduceBEq, Int.reduceBNe, Int.reduceToNat, Int.reduceGT, Int.reduceGE, ↓reduceIte, decide_true, decide_false, eq_self, Nat.mul_one, Nat.zero_mul, Nat.one_mul, Int.le_refl, Nat.le_refl, Int.cast_ofNat_Int, Try.f11, Sx.t, Sx.cs, rT, rS, lT, lS, ll, unTr_eq, e0, hf, hTT, hrF, n0, Span.t, Span.cs, Bool.true_or, Bool.and_self, Bool.true_and]
    · have hrF : rowF1 T1 = .sl (T1.flatMap Span.cs) T1.length true := by unfold rowF1; rw [if_neg hz]
      simp (decide := true) (maxSteps := 4000000) only [go_sem, Nat.reduceAdd, Nat.reduceSub, Nat.reduceMul, Nat.reduceDiv, Nat.reduceMod, Nat.reduceLT, Nat.reduceLeDiff, Nat.reduceEqDiff, Nat.reduceBEq, Nat.reduceBNe, Nat.reduceGT, Int.reduceAdd, Int.reduceSub, Int.reduceMul, Int.reduceNeg, Int.reduceLT, Int.reduceLE, Int.reduceEq, Int.reduceNe, Int.reduceBEq, Int.reduceBNe, Int.reduceToNat, Int.reduceGT, Int.reduceGE, ↓reduceIte, decide_true, decide_false, eq_self, Nat.mul_one, Nat.zero_mul, Nat.one_mul, Int.le_refl, Nat.le_refl, Int.cast_ofNat_Int, Try.f11, Sx.t, Sx.cs, rT, rS, lT, lS, ll, unTr_eq, e0, hf, hTT, hrF, n0, Span.t, Span.cs, Bool.true_or, Bool.and_self, Bool.true_and]
  · obtain ⟨hv, hlb, h1, h8⟩ := false_opened hE
    obtain ⟨g, rfl⟩ := hs.ne (by omega)
    have hb8 : ¬ (l.length : Int) > 8 := by omega
    have hsl := rowN_len hS.row
    have hpos : 0 < S.length := List.length_pos_iff.2 hS.ne
    have hrow := rowB_t hS.row
    have hSS := trial_sel hE hS.row hS.ne
    rw [hS.isBad] at hSS
    obtain ⟨T1, hT1⟩ : ∃ T1, trialP x (selA l S) = T1 := ⟨_, rfl⟩
    rw [hT1] at hSS
    obtain ⟨t1, z1, te1⟩ := T1
    simp only [if_true] at hSS
    subst hSS
    have hS0 : ¬ S.length = 0 := by omega
    have hS1 : ((S.length : Int) == 0) = false := beq_int_f (by omega)
    have hl62 : (l.length : Int) ≤ 62 := by omega
    have hl0 : (0 : Int) ≤ l.length := by omega
    have hsr := selA_len (l := l) (S := S) (rowN_iff.1 hS.row).2
    have hS8 : S.length ≤ 9000000000000 := by omega
    have hrI := rowI_ne (l := nI S) (by rw [nI_len]; exact hS0)
    rw [nI_len] at hrI
    simp (decide := true) (maxSteps := 4000000) only [go_sem, Nat.reduceAdd, Nat.reduceSub, Nat.reduceMul, Nat.reduceDiv, Nat.reduceMod, Nat.reduceLT, Nat.reduceLeDiff, Nat.reduceEqDiff, Nat.reduceBEq, Nat.reduceBNe, Nat.reduceGT, Int.reduceAdd, Int.reduceSub, Int.reduceMul, Int.reduceNeg, Int.reduceLT, Int.reduceLE, Int.reduceEq, Int.reduceNe, Int.reduceBEq, Int.reduceBNe, Int.reduceToNat, Int.reduceGT, Int.reduceGE, ↓reduceIte, decide_true, decide_false, eq_self, Nat.mul_one, Nat.zero_mul, Nat.one_mul, Int.le_refl, Nat.le_refl, Int.cast_ofNat_Int, Try.f11, Sx.t, Sx.cs, rT, rS, lT, lS, ll, unTr_eq, unI_eq, e0, hf, ht, hrI, n1, hb8, nI_len, toN_nI, hrow, hl0, hl62, Int.toNat_natCast, hS1, h8, hS0, hsr, hS8, hT1, Span.t, Span.cs, Bool.false_or, Bool.not_true]
    have hrr : ∀ k, k < S.length → 1 < S.length → rowN l.length (S.eraseIdx k) ∧ S.eraseIdx k ≠ [] ∧ badC x l (S.eraseIdx k) = false := fun k h1 h2 => least_less hS h1 h2
    refine pwpC_loopU (A := { k : Nat // k ≤ S.length }) [1, 2, 3, 7] (fun k => [(15, .t (.int .i64 k.1))]) (fun k => []) (fun k => S.length - k.1) ⟨0, by omega⟩ (by decide) (fun _ => by rfl) ?_ fun Q1 hQ1 ⟨k, hk⟩ I1 hI1 => ?_
    · simp (decide := true) (maxSteps := 4000000) only [go_sem, Nat.reduceAdd, Nat.reduceSub, Nat.reduceMul, Nat.reduceDiv, Nat.reduceMod, Nat.reduceLT, Nat.reduceLeDiff, Nat.reduceEqDiff, Nat.reduceBEq, Nat.reduceBNe, Nat.reduceGT, Int.reduceAdd, Int.reduceSub, Int.reduceMul, Int.reduceNeg, Int.reduceLT, Int.reduceLE, Int.reduceEq, Int.reduceNe, Int.reduceBEq, Int.reduceBNe, Int.reduceToNat, Int.reduceGT, Int.reduceGE, ↓reduceIte, decide_true, decide_false, eq_self, Nat.mul_one, Nat.zero_mul, Nat.one_mul, Int.le_refl, Nat.le_refl, Int.cast_ofNat_Int]
    · by_cases hlt : (k : Int) < S.length ∧ (S.length : Int) > 1
      · obtain ⟨hlt, hgt⟩ := hlt
        obtain ⟨r1, r2, r3⟩ := hrr k (by omega) (by omega)
        have hc1 : IntKind.i64.wrap (k + 1) = ((k + 1 : Nat) : Int) := by rw [wrap_in (by omega) (by omega)]; omega
        have hRl := List.length_eraseIdx_of_lt (show k < S.length by omega)
        have hRR := trial_sel hE r1 r2
        rw [r3] at hRR
        have hRrow := rowB_t r1
        have hRsr := selA_len (l := l) (S := S.eraseIdx k) (rowN_iff.1 r1).2
        have hRe := nI_erase (S := S) (k := k)
        obtain ⟨R, hR⟩ : ∃ R, S.eraseIdx k = R := ⟨_, rfl⟩
        rw [hR] at r1 r2 r3 hRl hRR hRrow hRsr hRe
        obtain ⟨T2, hT2⟩ : ∃ T2, trialP x (selA l R) = T2 := ⟨_, rfl⟩
        rw [hT2] at hRR
        obtain ⟨t2, z2, te2⟩ := T2
        simp only [Bool.false_eq_true, if_false] at hRR
        subst hRR
        have hR0 : ¬ R.length = 0 := by omega
        have hR8 : R.length ≤ 9000000000000 := by omega
        have hkl : (k : Int) ≤ S.length := by omega
        have hkl1 : ((k + 1 : Nat) : Int) ≤ S.length := by omega
        have hTl : (List.take k (ints (nI S))).length = k := by rw [List.length_take, ints_len, nI_len]; omega
        have hDl : (List.drop (k + 1) (ints (nI S))).length = S.length - (k + 1) := by rw [List.length_drop, ints_len, nI_len]
        have hTS : List.take S.length (ints (nI S)) = ints (nI S) := List.take_of_length_le (by rw [ints_len, nI_len]; omega)
        have hm1 : k * 8 ≤ 140737488355328 := by omega
        have hm2 : (k + (S.length - (k + 1))) * 8 ≤ 140737488355328 := by omega
        have hR1 : k + (S.length - (k + 1)) = R.length := by omega
        have hRm : R.length * 8 ≤ 140737488355328 := by omega
        rcases Nat.eq_zero_or_pos k with h0 | h0
        · subst h0
          have hlt0 : (0 : Int) < S.length := by omega
          have hS1' : ¬ S.length - (0 + 1) = 0 := by omega
          have w1 : IntKind.i64.wrap 1 = 1 := rfl
          have h1S : (1 : Int) ≤ S.length := by omega
          simp only [Int.cast_ofNat_Int, Nat.zero_add, List.take_zero, List.nil_append] at hkl1 hDl hm2 hR1 hRe hc1 hS1'
          simp (decide := true) (maxSteps := 4000000) only [go_sem, Nat.reduceAdd, Nat.reduceSub, Nat.reduceMul, Nat.reduceDiv, Nat.reduceMod, Nat.reduceLT, Nat.reduceLeDiff, Nat.reduceEqDiff, Nat.reduceBEq, Nat.reduceBNe, Nat.reduceGT, Int.reduceAdd, Int.reduceSub, Int.reduceMul, Int.reduceNeg, Int.reduceLT, Int.reduceLE, Int.reduceEq, Int.reduceNe, Int.reduceBEq, Int.reduceBNe, Int.reduceToNat, Int.reduceGT, Int.reduceGE, ↓reduceIte, decide_true, decide_false, eq_self, Nat.mul_one, Nat.zero_mul, Nat.one_mul, Int.le_refl, Nat.le_refl, Int.cast_ofNat_Int, w1, h1S, allO_toT, hlt0, hgt, nI_len, ints_len, hkl1, hTS, hDl, hm2, hR1, hS1', ← hRe, hRm, rT, rS, lT, lS, e0, unTr_eq, unI_eq, toN_nI, hRrow, h8, hR0, hRsr, hR8, hT2, Span.t, Span.cs, Sx.cs, Bool.false_or, Bool.true_or, Bool.not_true, Bool.not_false]
          refine hI1 _ ⟨0 + 1, by omega⟩ (by simp only; omega) ?_
          simp (decide := true) (maxSteps := 4000000) only [go_sem, Nat.reduceAdd, Nat.reduceSub, Nat.reduceMul, Nat.reduceDiv, Nat.reduceMod, Nat.reduceLT, Nat.reduceLeDiff, Nat.reduceEqDiff, Nat.reduceBEq, Nat.reduceBNe, Nat.reduceGT, Int.reduceAdd, Int.reduceSub, Int.reduceMul, Int.reduceNeg, Int.reduceLT, Int.reduceLE, Int.reduceEq, Int.reduceNe, Int.reduceBEq, Int.reduceBNe, Int.reduceToNat, Int.reduceGT, Int.reduceGE, ↓reduceIte, decide_true, decide_false, eq_self, Nat.mul_one, Nat.zero_mul, Nat.one_mul, Int.le_refl, Nat.le_refl, Int.cast_ofNat_Int, hc1]
        · have hk0 : ¬ k = 0 := by omega
          by_cases hlast : S.length - (k + 1) = 0
          · have hDn : List.drop (k + 1) (ints (nI S)) = [] := List.length_eq_zero_iff.1 (by omega)
            rw [hDn, List.append_nil] at hRe
            have hRk : (k = R.length) = True := eq_true (by omega)
            have hRk2 : (R.length = k) = True := eq_true (by omega)
            simp (decide := true) (maxSteps := 4000000) only [go_sem, Nat.reduceAdd, Nat.reduceSub, Nat.reduceMul, Nat.reduceDiv, Nat.reduceMod, Nat.reduceLT, Nat.reduceLeDiff, Nat.reduceEqDiff, Nat.reduceBEq, Nat.reduceBNe, Nat.reduceGT, Int.reduceAdd, Int.reduceSub, Int.reduceMul, Int.reduceNeg, Int.reduceLT, Int.reduceLE, Int.reduceEq, Int.reduceNe, Int.reduceBEq, Int.reduceBNe, Int.reduceToNat, Int.reduceGT, Int.reduceGE, ↓reduceIte, decide_true, decide_false, eq_self, Nat.mul_one, Nat.zero_mul, Nat.one_mul, Int.le_refl, Nat.le_refl, Int.cast_ofNat_Int, allO_toT, hc1, hlt, hgt, nI_len, ints_len, hkl, hkl1, hTS, hTl, hDl, hm1, hk0, hlast, hDn, ← hRe, hRk, hRk2, hRm, rT, rS, lT, lS, e0, unTr_eq, unI_eq, toN_nI, hRrow, h8, hR0, hRsr, hR8, hT2, Span.t, Span.cs, Sx.cs, Bool.false_or, Bool.true_or, Bool.not_true, Bool.not_false]
            refine hI1 _ ⟨k + 1, by omega⟩ (by simp only; omega) ?_
            simp (decide := true) (maxSteps := 4000000) only [go_sem, Nat.reduceAdd, Nat.reduceSub, Nat.reduceMul, Nat.reduceDiv, Nat.reduceMod, Nat.reduceLT, Nat.reduceLeDiff, Nat.reduceEqDiff, Nat.reduceBEq, Nat.reduceBNe, Nat.reduceGT, Int.reduceAdd, Int.reduceSub, Int.reduceMul, Int.reduceNeg, Int.reduceLT, Int.reduceLE, Int.reduceEq, Int.reduceNe, Int.reduceBEq, Int.reduceBNe, Int.reduceToNat, Int.reduceGT, Int.reduceGE, ↓reduceIte, decide_true, decide_false, eq_self, Nat.mul_one, Nat.zero_mul, Nat.one_mul, Int.le_refl, Nat.le_refl, Int.cast_ofNat_Int, hc1]
          · simp (decide := true) (maxSteps := 4000000) only [go_sem, Nat.reduceAdd, Nat.reduceSub, Nat.reduceMul, Nat.reduceDiv, Nat.reduceMod, Nat.reduceLT, Nat.reduceLeDiff, Nat.reduceEqDiff, Nat.reduceBEq, Nat.reduceBNe, Nat.reduceGT, Int.reduceAdd, Int.reduceSub, Int.reduceMul, Int.reduceNeg, Int.reduceLT, Int.reduceLE, Int.reduceEq, Int.reduceNe, Int.reduceBEq, Int.reduceBNe, Int.reduceToNat, Int.reduceGT, Int.reduceGE, ↓reduceIte, decide_true, decide_false, eq_self, Nat.mul_one, Nat.zero_mul, Nat.one_mul, Int.le_refl, Nat.le_refl, Int.cast_ofNat_Int, allO_toT, hc1, hlt, hgt, nI_len, ints_len, hkl, hkl1, hTS, hTl, hDl, hm1, hm2, hR1, hk0, hlast, ← hRe, hRm, rT, rS, lT, lS, e0, unTr_eq, unI_eq, toN_nI, hRrow, h8, hR0, hRsr, hR8, hT2, Span.t, Span.cs, Sx.cs, Bool.false_or, Bool.true_or, Bool.not_true, Bool.not_false]
            refine hI1 _ ⟨k + 1, by omega⟩ (by simp only; omega) ?_
            simp (decide := true) (maxSteps := 4000000) only [go_sem, Nat.reduceAdd, Nat.reduceSub, Nat.reduceMul, Nat.reduceDiv, Nat.reduceMod, Nat.reduceLT, Nat.reduceLeDiff, Nat.reduceEqDiff, Nat.reduceBEq, Nat.reduceBNe, Nat.reduceGT, Int.reduceAdd, Int.reduceSub, Int.reduceMul, Int.reduceNeg, Int.reduceLT, Int.reduceLE, Int.reduceEq, Int.reduceNe, Int.reduceBEq, Int.reduceBNe, Int.reduceToNat, Int.reduceGT, Int.reduceGE, ↓reduceIte, decide_true, decide_false, eq_self, Nat.mul_one, Nat.zero_mul, Nat.one_mul, Int.le_refl, Nat.le_refl, Int.cast_ofNat_Int, hc1]
      · obtain ⟨N, hN⟩ : ∃ N, 2 ^ l.length = N := ⟨_, rfl⟩
        have hNb : 2 ≤ N ∧ N ≤ 256 := by
          rcases (show l.length = 1 ∨ l.length = 2 ∨ l.length = 3 ∨ l.length = 4 ∨ l.length = 5 ∨ l.length = 6 ∨ l.length = 7 ∨ l.length = 8 by omega) with e | e | e | e | e | e | e | e <;> rw [e] at hN <;> subst hN <;> decide
        have hlz : ¬ (l.length : Int) < 0 := by omega
        have hsh : IntKind.i64.wrap (1 * 2 ^ min l.length 64) = (N : Int) := by
          rcases (show l.length = 1 ∨ l.length = 2 ∨ l.length = 3 ∨ l.length = 4 ∨ l.length = 5 ∨ l.length = 6 ∨ l.length = 7 ∨ l.length = 8 by omega) with e | e | e | e | e | e | e | e <;> rw [e] at hN ⊢ <;> subst hN <;> rfl
        have hmod : 0 < (N : Int) ∧ (N : Int) ≤ 9223372036854775807 := by omega
        have i0 := Int.emod_nonneg set (show (N : Int) ≠ 0 by omega)
        obtain ⟨m, hm⟩ : ∃ m : Nat, set % (N : Int) = m := ⟨(set % N).toNat, (Int.toNat_of_nonneg i0).symm⟩
        have hmem : 0 ≤ (m : Int) ∧ 0 ≤ (l.length : Int) ∧ (l.length : Int) ≤ 62 := by omega
        have hrs : rowN l.length (setN l.length m) := ⟨m.testBit, rfl⟩
        obtain ⟨R, hR⟩ : ∃ R, setN l.length m = R := ⟨_, rfl⟩
        rw [hR] at hrs
        have hRrow := rowB_t hrs
        have hRsr := selA_len (l := l) (S := R) (rowN_iff.1 hrs).2
        have hRl := rowN_len hrs
        have hR8 : R.length ≤ 9000000000000 := by omega
        have hR62 : R.length ≤ 62 := by omega
        have hS62 : S.length ≤ 62 := by omega
        have tail : ∀ c : Bool, c = false → True := fun _ _ => trivial
        have hend : ∀ (x y : Bool), x = false ∨ y = false → (x && y) = false := by intro x y h; rcases h with rfl | rfl <;> simp
        have hcond : (decide ((k : Int) < S.length) && decide ((S.length : Int) > 1)) = false := by
          rw [← Bool.not_eq_true]; simp only [Bool.and_eq_true, decide_eq_true_eq]; exact hlt
        rcases Nat.eq_zero_or_pos R.length with h0 | h0
        · have hRn : rowI (nI R) = .nilSl := by rw [List.length_eq_zero_iff.1 h0]; rfl
          by_cases hk1 : (k : Int) < S.length
          · have hk2 : ¬ (S.length : Int) > 1 := fun h => hlt ⟨hk1, h⟩
            simp (decide := true) (maxSteps := 4000000) only [go_sem, Nat.reduceAdd, Nat.reduceSub, Nat.reduceMul, Nat.reduceDiv, Nat.reduceMod, Nat.reduceLT, Nat.reduceLeDiff, Nat.reduceEqDiff, Nat.reduceBEq, Nat.reduceBNe, Nat.reduceGT, Int.reduceAdd, Int.reduceSub, Int.reduceMul, Int.reduceNeg, Int.reduceLT, Int.reduceLE, Int.reduceEq, Int.reduceNe, Int.reduceBEq, Int.reduceBNe, Int.reduceToNat, Int.reduceGT, Int.reduceGE, ↓reduceIte, decide_true, decide_false, eq_self, Nat.mul_one, Nat.zero_mul, Nat.one_mul, Int.le_refl, Nat.le_refl, Int.cast_ofNat_Int, hk1, hk2, nI_len]
            refine hQ1 _ _ ?_
            simp (decide := true) (maxSteps := 4000000) only [go_sem, Nat.reduceAdd, Nat.reduceSub, Nat.reduceMul, Nat.reduceDiv, Nat.reduceMod, Nat.reduceLT, Nat.reduceLeDiff, Nat.reduceEqDiff, Nat.reduceBEq, Nat.reduceBNe, Nat.reduceGT, Int.reduceAdd, Int.reduceSub, Int.reduceMul, Int.reduceNeg, Int.reduceLT, Int.reduceLE, Int.reduceEq, Int.reduceNe, Int.reduceBEq, Int.reduceBNe, Int.reduceToNat, Int.reduceGT, Int.reduceGE, ↓reduceIte, decide_true, decide_false, eq_self, Nat.mul_one, Nat.zero_mul, Nat.one_mul, Int.le_refl, Nat.le_refl, Int.cast_ofNat_Int, hlz, hsh, hmod, hm, hmem, Int.toNat_natCast, hR, hRn, beq_self_eq_true]
          · simp (decide := true) (maxSteps := 4000000) only [go_sem, Nat.reduceAdd, Nat.reduceSub, Nat.reduceMul, Nat.reduceDiv, Nat.reduceMod, Nat.reduceLT, Nat.reduceLeDiff, Nat.reduceEqDiff, Nat.reduceBEq, Nat.reduceBNe, Nat.reduceGT, Int.reduceAdd, Int.reduceSub, Int.reduceMul, Int.reduceNeg, Int.reduceLT, Int.reduceLE, Int.reduceEq, Int.reduceNe, Int.reduceBEq, Int.reduceBNe, Int.reduceToNat, Int.reduceGT, Int.reduceGE, ↓reduceIte, decide_true, decide_false, eq_self, Nat.mul_one, Nat.zero_mul, Nat.one_mul, Int.le_refl, Nat.le_refl, Int.cast_ofNat_Int, hk1, nI_len]
            refine hQ1 _ _ ?_
            simp (decide := true) (maxSteps := 4000000) only [go_sem, Nat.reduceAdd, Nat.reduceSub, Nat.reduceMul, Nat.reduceDiv, Nat.reduceMod, Nat.reduceLT, Nat.reduceLeDiff, Nat.reduceEqDiff, Nat.reduceBEq, Nat.reduceBNe, Nat.reduceGT, Int.reduceAdd, Int.reduceSub, Int.reduceMul, Int.reduceNeg, Int.reduceLT, Int.reduceLE, Int.reduceEq, Int.reduceNe, Int.reduceBEq, Int.reduceBNe, Int.reduceToNat, Int.reduceGT, Int.reduceGE, ↓reduceIte, decide_true, decide_false, eq_self, Nat.mul_one, Nat.zero_mul, Nat.one_mul, Int.le_refl, Nat.le_refl, Int.cast_ofNat_Int, hlz, hsh, hmod, hm, hmem, Int.toNat_natCast, hR, hRn, beq_self_eq_true]
        · have hne : R ≠ [] := fun h => by rw [h] at h0; simp at h0
          have hR0 : ¬ R.length = 0 := by omega
          have hR0' : ((R.length : Int) == 0) = false := beq_int_f (by omega)
          have hRn := rowI_ne (l := nI R) (by rw [nI_len]; omega)
          rw [nI_len] at hRn
          have hRR := trial_sel hE hrs hne
          obtain ⟨T2, hT2⟩ : ∃ T2, trialP x (selA l R) = T2 := ⟨_, rfl⟩
          rw [hT2] at hRR
          obtain ⟨t2, z2, te2⟩ := T2
          have hcase : (te2 == 0) = true ∨ (te2 == 0) = false ∧ ((R.length : Int) > S.length ∨ ¬ (R.length : Int) > S.length ∧ ((R.length : Int) == S.length) = true ∧ before (nI R) (nI S) = false) := by
            simp only at hRR
            cases hb : badC x l R with
            | false => rw [hb] at hRR; simp only [Bool.false_eq_true, if_false] at hRR; subst hRR; exact .inl rfl
            | true =>
              rw [hb] at hRR
              simp only [if_true] at hRR
              subst hRR
              have hmin := hS.min R hrs hne hb
              unfold bet at hmin
              rw [nI_len, nI_len] at hmin
              refine .inr ⟨rfl, ?_⟩
              by_cases h2 : (R.length : Int) > S.length
              · exact .inl h2
              · have h1 : R.length = S.length := by
                  rcases Nat.lt_or_ge R.length S.length with h | h
                  · exact absurd (.inl h) hmin
                  · omega
                refine .inr ⟨h2, beq_int_t (by omega), ?_⟩
                cases h3 : before (nI R) (nI S) with
                | false => rfl
                | true => exact absurd (.inr ⟨h1, h3⟩) hmin
          rcases hcase with hb1 | ⟨hb1, hge | ⟨hgn, hge, hb2⟩⟩
          · by_cases hk1 : (k : Int) < S.length
            · have hk2 : ¬ (S.length : Int) > 1 := fun h => hlt ⟨hk1, h⟩
              simp (decide := true) (maxSteps := 4000000) only [go_sem, Nat.reduceAdd, Nat.reduceSub, Nat.reduceMul, Nat.reduceDiv, Nat.reduceMod, Nat.reduceLT, Nat.reduceLeDiff, Nat.reduceEqDiff, Nat.reduceBEq, Nat.reduceBNe, Nat.reduceGT, Int.reduceAdd, Int.reduceSub, Int.reduceMul, Int.reduceNeg, Int.reduceLT, Int.reduceLE, Int.reduceEq, Int.reduceNe, Int.reduceBEq, Int.reduceBNe, Int.reduceToNat, Int.reduceGT, Int.reduceGE, ↓reduceIte, decide_true, decide_false, eq_self, Nat.mul_one, Nat.zero_mul, Nat.one_mul, Int.le_refl, Nat.le_refl, Int.cast_ofNat_Int, hk1, hk2, nI_len]
              refine hQ1 _ _ ?_
              simp (decide := true) (maxSteps := 4000000) only [go_sem, Nat.reduceAdd, Nat.reduceSub, Nat.reduceMul, Nat.reduceDiv, Nat.reduceMod, Nat.reduceLT, Nat.reduceLeDiff, Nat.reduceEqDiff, Nat.reduceBEq, Nat.reduceBNe, Nat.reduceGT, Int.reduceAdd, Int.reduceSub, Int.reduceMul, Int.reduceNeg, Int.reduceLT, Int.reduceLE, Int.reduceEq, Int.reduceNe, Int.reduceBEq, Int.reduceBNe, Int.reduceToNat, Int.reduceGT, Int.reduceGE, ↓reduceIte, decide_true, decide_false, eq_self, Nat.mul_one, Nat.zero_mul, Nat.one_mul, Int.le_refl, Nat.le_refl, Int.cast_ofNat_Int, hlz, hsh, hmod, hm, hmem, Int.toNat_natCast, hR, hRn, hR0', rT, rS, lT, lS, e0, unTr_eq, unI_eq, nI_len, toN_nI, hRrow, h8, hR0, hRsr, hR8, hT2, Span.t, Span.cs, Sx.cs, Bool.false_or, Bool.true_or, Bool.not_true, Bool.not_false, hR62, hS62, hb1]
            · simp (decide := true) (maxSteps := 4000000) only [go_sem, Nat.reduceAdd, Nat.reduceSub, Nat.reduceMul, Nat.reduceDiv, Nat.reduceMod, Nat.reduceLT, Nat.reduceLeDiff, Nat.reduceEqDiff, Nat.reduceBEq, Nat.reduceBNe, Nat.reduceGT, Int.reduceAdd, Int.reduceSub, Int.reduceMul, Int.reduceNeg, Int.reduceLT, Int.reduceLE, Int.reduceEq, Int.reduceNe, Int.reduceBEq, Int.reduceBNe, Int.reduceToNat, Int.reduceGT, Int.reduceGE, ↓reduceIte, decide_true, decide_false, eq_self, Nat.mul_one, Nat.zero_mul, Nat.one_mul, Int.le_refl, Nat.le_refl, Int.cast_ofNat_Int, hk1, nI_len]
              refine hQ1 _ _ ?_
              simp (decide := true) (maxSteps := 4000000) only [go_sem, Nat.reduceAdd, Nat.reduceSub, Nat.reduceMul, Nat.reduceDiv, Nat.reduceMod, Nat.reduceLT, Nat.reduceLeDiff, Nat.reduceEqDiff, Nat.reduceBEq, Nat.reduceBNe, Nat.reduceGT, Int.reduceAdd, Int.reduceSub, Int.reduceMul, Int.reduceNeg, Int.reduceLT, Int.reduceLE, Int.reduceEq, Int.reduceNe, Int.reduceBEq, Int.reduceBNe, Int.reduceToNat, Int.reduceGT, Int.reduceGE, ↓reduceIte, decide_true, decide_false, eq_self, Nat.mul_one, Nat.zero_mul, Nat.one_mul, Int.le_refl, Nat.le_refl, Int.cast_ofNat_Int, hlz, hsh, hmod, hm, hmem, Int.toNat_natCast, hR, hRn, hR0', rT, rS, lT, lS, e0, unTr_eq, unI_eq, nI_len, toN_nI, hRrow, h8, hR0, hRsr, hR8, hT2, Span.t, Span.cs, Sx.cs, Bool.false_or, Bool.true_or, Bool.not_true, Bool.not_false, hR62, hS62, hb1]
          · by_cases hk1 : (k : Int) < S.length
            · have hk2 : ¬ (S.length : Int) > 1 := fun h => hlt ⟨hk1, h⟩
              simp (decide := true) (maxSteps := 4000000) only [go_sem, Nat.reduceAdd, Nat.reduceSub, Nat.reduceMul, Nat.reduceDiv, Nat.reduceMod, Nat.reduceLT, Nat.reduceLeDiff, Nat.reduceEqDiff, Nat.reduceBEq, Nat.reduceBNe, Nat.reduceGT, Int.reduceAdd, Int.reduceSub, Int.reduceMul, Int.reduceNeg, Int.reduceLT, Int.reduceLE, Int.reduceEq, Int.reduceNe, Int.reduceBEq, Int.reduceBNe, Int.reduceToNat, Int.reduceGT, Int.reduceGE, ↓reduceIte, decide_true, decide_false, eq_self, Nat.mul_one, Nat.zero_mul, Nat.one_mul, Int.le_refl, Nat.le_refl, Int.cast_ofNat_Int, hk1, hk2, nI_len]
              refine hQ1 _ _ ?_
              simp (decide := true) (maxSteps := 4000000) only [go_sem, Nat.reduceAdd, Nat.reduceSub, Nat.reduceMul, Nat.reduceDiv, Nat.reduceMod, Nat.reduceLT, Nat.reduceLeDiff, Nat.reduceEqDiff, Nat.reduceBEq, Nat.reduceBNe, Nat.reduceGT, Int.reduceAdd, Int.reduceSub, Int.reduceMul, Int.reduceNeg, Int.reduceLT, Int.reduceLE, Int.reduceEq, Int.reduceNe, Int.reduceBEq, Int.reduceBNe, Int.reduceToNat, Int.reduceGT, Int.reduceGE, ↓reduceIte, decide_true, decide_false, eq_self, Nat.mul_one, Nat.zero_mul, Nat.one_mul, Int.le_refl, Nat.le_refl, Int.cast_ofNat_Int, hlz, hsh, hmod, hm, hmem, Int.toNat_natCast, hR, hRn, hR0', rT, rS, lT, lS, e0, unTr_eq, unI_eq, nI_len, toN_nI, hRrow, h8, hR0, hRsr, hR8, hT2, Span.t, Span.cs, Sx.cs, Bool.false_or, Bool.true_or, Bool.not_true, Bool.not_false, hR62, hS62, hb1, hge]
            · simp (decide := true) (maxSteps := 4000000) only [go_sem, Nat.reduceAdd, Nat.reduceSub, Nat.reduceMul, Nat.reduceDiv, Nat.reduceMod, Nat.reduceLT, Nat.reduceLeDiff, Nat.reduceEqDiff, Nat.reduceBEq, Nat.reduceBNe, Nat.reduceGT, Int.reduceAdd, Int.reduceSub, Int.reduceMul, Int.reduceNeg, Int.reduceLT, Int.reduceLE, Int.reduceEq, Int.reduceNe, Int.reduceBEq, Int.reduceBNe, Int.reduceToNat, Int.reduceGT, Int.reduceGE, ↓reduceIte, decide_true, decide_false, eq_self, Nat.mul_one, Nat.zero_mul, Nat.one_mul, Int.le_refl, Nat.le_refl, Int.cast_ofNat_Int, hk1, nI_len]
              refine hQ1 _ _ ?_
              simp (decide := true) (maxSteps := 4000000) only [go_sem, Nat.reduceAdd, Nat.reduceSub, Nat.reduceMul, Nat.reduceDiv, Nat.reduceMod, Nat.reduceLT, Nat.reduceLeDiff, Nat.reduceEqDiff, Nat.reduceBEq, Nat.reduceBNe, Nat.reduceGT, Int.reduceAdd, Int.reduceSub, Int.reduceMul, Int.reduceNeg, Int.reduceLT, Int.reduceLE, Int.reduceEq, Int.reduceNe, Int.reduceBEq, Int.reduceBNe, Int.reduceToNat, Int.reduceGT, Int.reduceGE, ↓reduceIte, decide_true, decide_false, eq_self, Nat.mul_one, Nat.zero_mul, Nat.one_mul, Int.le_refl, Nat.le_refl, Int.cast_ofNat_Int, hlz, hsh, hmod, hm, hmem, Int.toNat_natCast, hR, hRn, hR0', rT, rS, lT, lS, e0, unTr_eq, unI_eq, nI_len, toN_nI, hRrow, h8, hR0, hRsr, hR8, hT2, Span.t, Span.cs, Sx.cs, Bool.false_or, Bool.true_or, Bool.not_true, Bool.not_false, hR62, hS62, hb1, hge]
          · by_cases hk1 : (k : Int) < S.length
            · have hk2 : ¬ (S.length : Int) > 1 := fun h => hlt ⟨hk1, h⟩
              simp (decide := true) (maxSteps := 4000000) only [go_sem, Nat.reduceAdd, Nat.reduceSub, Nat.reduceMul, Nat.reduceDiv, Nat.reduceMod, Nat.reduceLT, Nat.reduceLeDiff, Nat.reduceEqDiff, Nat.reduceBEq, Nat.reduceBNe, Nat.reduceGT, Int.reduceAdd, Int.reduceSub, Int.reduceMul, Int.reduceNeg, Int.reduceLT, Int.reduceLE, Int.reduceEq, Int.reduceNe, Int.reduceBEq, Int.reduceBNe, Int.reduceToNat, Int.reduceGT, Int.reduceGE, ↓reduceIte, decide_true, decide_false, eq_self, Nat.mul_one, Nat.zero_mul, Nat.one_mul, Int.le_refl, Nat.le_refl, Int.cast_ofNat_Int, hk1, hk2, nI_len]
              refine hQ1 _ _ ?_
              simp (decide := true) (maxSteps := 4000000) only [go_sem, Nat.reduceAdd, Nat.reduceSub, Nat.reduceMul, Nat.reduceDiv, Nat.reduceMod, Nat.reduceLT, Nat.reduceLeDiff, Nat.reduceEqDiff, Nat.reduceBEq, Nat.reduceBNe, Nat.reduceGT, Int.reduceAdd, Int.reduceSub, Int.reduceMul, Int.reduceNeg, Int.reduceLT, Int.reduceLE, Int.reduceEq, Int.reduceNe, Int.reduceBEq, Int.reduceBNe, Int.reduceToNat, Int.reduceGT, Int.reduceGE, ↓reduceIte, decide_true, decide_false, eq_self, Nat.mul_one, Nat.zero_mul, Nat.one_mul, Int.le_refl, Nat.le_refl, Int.cast_ofNat_Int, hlz, hsh, hmod, hm, hmem, Int.toNat_natCast, hR, hRn, hR0', rT, rS, lT, lS, e0, unTr_eq, unI_eq, nI_len, toN_nI, hRrow, h8, hR0, hRsr, hR8, hT2, Span.t, Span.cs, Sx.cs, Bool.false_or, Bool.true_or, Bool.not_true, Bool.not_false, hR62, hS62, hb1, hgn, hge, hb2]
            · simp (decide := true) (maxSteps := 4000000) only [go_sem, Nat.reduceAdd, Nat.reduceSub, Nat.reduceMul, Nat.reduceDiv, Nat.reduceMod, Nat.reduceLT, Nat.reduceLeDiff, Nat.reduceEqDiff, Nat.reduceBEq, Nat.reduceBNe, Nat.reduceGT, Int.reduceAdd, Int.reduceSub, Int.reduceMul, Int.reduceNeg, Int.reduceLT, Int.reduceLE, Int.reduceEq, Int.reduceNe, Int.reduceBEq, Int.reduceBNe, Int.reduceToNat, Int.reduceGT, Int.reduceGE, ↓reduceIte, decide_true, decide_false, eq_self, Nat.mul_one, Nat.zero_mul, Nat.one_mul, Int.le_refl, Nat.le_refl, Int.cast_ofNat_Int, hk1, nI_len]
              refine hQ1 _ _ ?_
              simp (decide := true) (maxSteps := 4000000) only [go_sem, Nat.reduceAdd, Nat.reduceSub, Nat.reduceMul, Nat.reduceDiv, Nat.reduceMod, Nat.reduceLT, Nat.reduceLeDiff, Nat.reduceEqDiff, Nat.reduceBEq, Nat.reduceBNe, Nat.reduceGT, Int.reduceAdd, Int.reduceSub, Int.reduceMul, Int.reduceNeg, Int.reduceLT, Int.reduceLE, Int.reduceEq, Int.reduceNe, Int.reduceBEq, Int.reduceBNe, Int.reduceToNat, Int.reduceGT, Int.reduceGE, ↓reduceIte, decide_true, decide_false, eq_self, Nat.mul_one, Nat.zero_mul, Nat.one_mul, Int.le_refl, Nat.le_refl, Int.cast_ofNat_Int, hlz, hsh, hmod, hm, hmem, Int.toNat_natCast, hR, hRn, hR0', rT, rS, lT, lS, e0, unTr_eq, unI_eq, nI_len, toN_nI, hRrow, h8, hR0, hRsr, hR8, hT2, Span.t, Span.cs, Sx.cs, Bool.false_or, Bool.true_or, Bool.not_true, Bool.not_false, hR62, hS62, hb1, hgn, hge, hb2]
end Go.Proofs.Ytjmkccckohcfkaa

/- Part Ox. -/
namespace Go.Proofs.Ytjmkccckohcfkaa
open Go.RowKit Go.Pm Go.Oc Go.Oh Go.Os
set_option maxRecDepth 100000
set_option linter.unusedVariables false

theorem slice_cells {k : Nat} {t e : TypeId} {cs : List TV} (hu : Program.underlying Try.prog t = some (.slice e)) (h : cellsOk Try.prog (k + 1) t cs) : ∃ x, cs = [x] ∧ cellsOk Try.prog (k + 1) t [x] := by
  have h' := h
  unfold cellsOk at h'
  rw [hu] at h'
  rcases h' with h' | ⟨rows, full, h', _⟩
  · exact ⟨_, h', by rw [← h']; exact h⟩
  · exact ⟨_, h', by rw [← h']; exact h⟩
theorem int_cells {k : Nat} {cs : List TV} (h : cellsOk Try.prog (k + 1) 3 cs) : ∃ n, cs = [.int .i64 n] ∧ -9223372036854775808 ≤ n ∧ n ≤ 9223372036854775807 := cellsOk_i64 (by kernel_rfl) h
theorem span_cells {k : Nat} {cs : List TV} (h : cellsOk Try.prog (k + 2) 24 cs) : ∃ s : Span, cs = s.cs ∧ (-9223372036854775808 ≤ s.lo ∧ s.lo ≤ 9223372036854775807) ∧ -9223372036854775808 ≤ s.hi ∧ s.hi ≤ 9223372036854775807 := by
  have h := cellsOk_tys (ts := [3, 3]) (by kernel_rfl) h
  obtain ⟨_, r, rfl, h1, h⟩ := seqOk_cons h
  obtain ⟨_, r, rfl, h2, h⟩ := seqOk_cons h
  cases seqOk_nil h
  obtain ⟨a, rfl, ha⟩ := int_cells h1
  obtain ⟨b, rfl, hb⟩ := int_cells h2
  exact ⟨⟨a, b⟩, rfl, ha, hb⟩
theorem ints_cells {x : TV} {k : Nat} (h : cellsOk Try.prog (k + 2) 45 [x]) : ∃ l : List Int, IsRow ic x l ∧ l.length ≤ 17592186044415 ∧ ∀ n ∈ l, -9223372036854775808 ≤ n ∧ n ≤ 9223372036854775807 := by
  obtain ⟨l, h1, h2, h3, _⟩ := cellsOk_row (e := 3) (c := ic) (p := fun n => -9223372036854775808 ≤ n ∧ n ≤ 9223372036854775807) (by kernel_rfl) (fun cs hc => int_cells hc) h
  rw [show Program.bytesOf Try.prog 3 = 8 by kernel_rfl] at h3
  unfold reachBytes at h3
  exact ⟨l, h1, by omega, h2⟩
theorem spans_cells {x : TV} {k : Nat} (h : cellsOk Try.prog (k + 3) 22 [x]) : ∃ l : List Span, IsRow Span.cs x l ∧ l.length ≤ 9000000000000 ∧ ∀ s ∈ l, (-9223372036854775808 ≤ s.lo ∧ s.lo ≤ 9223372036854775807) ∧ -9223372036854775808 ≤ s.hi ∧ s.hi ≤ 9223372036854775807 := by
  obtain ⟨l, h1, h2, h3, _⟩ := cellsOk_row (e := 24) (c := Span.cs) (p := fun s : Span => (-9223372036854775808 ≤ s.lo ∧ s.lo ≤ 9223372036854775807) ∧ -9223372036854775808 ≤ s.hi ∧ s.hi ≤ 9223372036854775807) (by kernel_rfl) (fun cs hc => span_cells hc) h
  rw [show Program.bytesOf Try.prog 24 = 16 by kernel_rfl] at h3
  unfold reachBytes at h3
  exact ⟨l, h1, by omega, h2⟩
theorem sun_cells {k : Nat} {cs : List TV} (h : cellsOk Try.prog (k + 2) 67 cs) : ∃ s : Sun, cs = s.cs ∧ True := by
  have h := cellsOk_tys (ts := [3, 3]) (by kernel_rfl) h
  obtain ⟨_, r, rfl, h1, h⟩ := seqOk_cons h
  obtain ⟨_, r, rfl, h2, h⟩ := seqOk_cons h
  cases seqOk_nil h
  obtain ⟨a, rfl, ha⟩ := int_cells h1
  obtain ⟨b, rfl, hb⟩ := int_cells h2
  exact ⟨⟨a, b⟩, rfl, trivial⟩
theorem read_cells {k : Nat} {cs : List TV} (h : cellsOk Try.prog (k + 2) 28 cs) : ∃ a b : Int, cs = [.int .i64 a, .int .i64 b] ∧ (-9223372036854775808 ≤ a ∧ a ≤ 9223372036854775807) ∧ -9223372036854775808 ≤ b ∧ b ≤ 9223372036854775807 := by
  have h := cellsOk_tys (ts := [3, 3]) (by kernel_rfl) h
  obtain ⟨_, r, rfl, h1, h⟩ := seqOk_cons h
  obtain ⟨_, r, rfl, h2, h⟩ := seqOk_cons h
  cases seqOk_nil h
  obtain ⟨a, rfl, ha⟩ := int_cells h1
  obtain ⟨b, rfl, hb⟩ := int_cells h2
  exact ⟨a, b, rfl, ha, hb⟩
theorem trial_cells {k : Nat} {cs : List TV} (h : cellsOk Try.prog (k + 3) 84 cs) : ∃ p : Tr, cs = p.cs ∧ True := by
  have h := cellsOk_tys (ts := [28, 3]) (by kernel_rfl) h
  obtain ⟨_, r, rfl, h1, h⟩ := seqOk_cons h
  obtain ⟨_, r, rfl, h2, h⟩ := seqOk_cons h
  cases seqOk_nil h
  obtain ⟨a, b, rfl, _⟩ := read_cells h1
  obtain ⟨c, rfl, _⟩ := int_cells h2
  exact ⟨⟨a, b, c⟩, rfl, trivial⟩
theorem part_cells {k : Nat} {cs : List TV} (h : cellsOk Try.prog (k + 4) 77 cs) : ∃ p : Pt, cs = p.cs ∧ decP p = true := by
  have h := cellsOk_tys (ts := [3, 3, 22]) (by kernel_rfl) h
  obtain ⟨_, r, rfl, h1, h⟩ := seqOk_cons h
  obtain ⟨_, r, rfl, h2, h⟩ := seqOk_cons h
  obtain ⟨_, r, rfl, h3, h⟩ := seqOk_cons h
  cases seqOk_nil h
  obtain ⟨a, rfl, _⟩ := int_cells h1
  obtain ⟨b, rfl, _⟩ := int_cells h2
  obtain ⟨c, rfl, h3⟩ := slice_cells (e := 24) (by kernel_rfl) h3
  obtain ⟨l, hl, ll, _⟩ := spans_cells h3
  refine ⟨⟨a, b, c⟩, rfl, ?_⟩
  unfold decP
  rw [show rowL unS (Pt.mk a b c).s = some l from rowS_is hl]
  exact decide_eq_true ll
theorem sxArg {x : TV} (h : argOk Try.prog 26 x) : ∃ (s : Sx) (sT sS : TV), x = s.t sT sS ∧ IsRow Span.cs sT s.tab ∧ IsRow Span.cs sS s.shade ∧ s.tab.length ≤ 9000000000000 ∧ s.shade.length ≤ 9000000000000 := by
  obtain ⟨cs, rfl, h'⟩ := argOk_agg (ts := [3, 22, 24, 3, 22]) (by kernel_rfl) h
  have h := cellsOk_tys (ts := [3, 22, 24, 3, 22]) (by kernel_rfl) h'
  obtain ⟨_, r, rfl, h1, h⟩ := seqOk_cons h
  obtain ⟨_, r, rfl, h2, h⟩ := seqOk_cons h
  obtain ⟨_, r, rfl, h3, h⟩ := seqOk_cons h
  obtain ⟨_, r, rfl, h4, h⟩ := seqOk_cons h
  obtain ⟨_, r, rfl, h5, h⟩ := seqOk_cons h
  cases seqOk_nil h
  obtain ⟨a, rfl, _⟩ := int_cells h1
  obtain ⟨b, rfl, h2⟩ := slice_cells (e := 24) (by kernel_rfl) h2
  obtain ⟨c, rfl, _⟩ := span_cells h3
  obtain ⟨d, rfl, _⟩ := int_cells h4
  obtain ⟨e, rfl, h5⟩ := slice_cells (e := 24) (by kernel_rfl) h5
  obtain ⟨T, hT, lT, _⟩ := spans_cells h2
  obtain ⟨S, hS, lS, _⟩ := spans_cells h5
  exact ⟨⟨a, T, c, d, S⟩, b, e, rfl, hT, hS, lT, lS⟩
theorem rdArg {x : TV} (h : argOk Try.prog 28 x) : ∃ a b : Int, x = .agg [.int .i64 a, .int .i64 b] := by
  obtain ⟨cs, rfl, h'⟩ := argOk_agg (ts := [3, 3]) (by kernel_rfl) h
  obtain ⟨a, b, rfl, _⟩ := read_cells h'
  exact ⟨a, b, rfl⟩
theorem spArg {x : TV} (h : argOk Try.prog 24 x) : ∃ s : Span, x = s.t ∧ (-9223372036854775808 ≤ s.lo ∧ s.lo ≤ 9223372036854775807) ∧ -9223372036854775808 ≤ s.hi ∧ s.hi ≤ 9223372036854775807 := by
  obtain ⟨cs, rfl, h'⟩ := argOk_agg (ts := [3, 3]) (by kernel_rfl) h
  obtain ⟨s, rfl, h1, h2⟩ := span_cells h'
  exact ⟨s, rfl, h1, h2⟩
theorem intArg {x : TV} (h : argOk Try.prog 3 x) : ∃ n, x = .int .i64 n ∧ -9223372036854775808 ≤ n ∧ n ≤ 9223372036854775807 := argOk_i64 (by kernel_rfl) h
theorem intsArg {x : TV} (h : argOk Try.prog 45 x) : ∃ l : List Int, IsRow ic x l ∧ l.length ≤ 17592186044415 ∧ ∀ n ∈ l, -9223372036854775808 ≤ n ∧ n ≤ 9223372036854775807 := ints_cells (argOk_sl (e := 3) (by kernel_rfl) h)
theorem sunsArg {x : TV} (h : argOk Try.prog 37 x) : ∃ l : List Sun, IsRow Sun.cs x l ∧ l.length ≤ 9000000000000 := by
  obtain ⟨l, h1, _, h3, _⟩ := cellsOk_row (e := 67) (c := Sun.cs) (p := fun _ => True) (by kernel_rfl) (fun cs hc => sun_cells hc) (argOk_sl (e := 67) (by kernel_rfl) h)
  rw [show Program.bytesOf Try.prog 67 = 16 by kernel_rfl] at h3
  unfold reachBytes at h3
  exact ⟨l, h1, by omega⟩
theorem trialsArg {x : TV} (h : argOk Try.prog 41 x) : ∃ l : List Tr, IsRow Tr.cs x l ∧ l.length ≤ 9000000000000 := by
  obtain ⟨l, h1, _, h3, _⟩ := cellsOk_row (e := 84) (c := Tr.cs) (p := fun _ => True) (by kernel_rfl) (fun cs hc => trial_cells hc) (argOk_sl (e := 84) (by kernel_rfl) h)
  rw [show Program.bytesOf Try.prog 84 = 24 by kernel_rfl] at h3
  unfold reachBytes at h3
  exact ⟨l, h1, by omega⟩
theorem partsArg {x : TV} (h : argOk Try.prog 50 x) : ∃ l : List Pt, IsRow Pt.cs x l ∧ l.length ≤ 9000000000000 ∧ l.all decP = true := by
  obtain ⟨l, h1, h2, h3, _⟩ := cellsOk_row (e := 77) (c := Pt.cs) (p := fun p => decP p = true) (by kernel_rfl) (fun cs hc => part_cells hc) (argOk_sl (e := 77) (by kernel_rfl) h)
  rw [show Program.bytesOf Try.prog 77 = 40 by kernel_rfl] at h3
  unfold reachBytes at h3
  exact ⟨l, h1, by omega, List.all_eq_true.2 h2⟩
end Go.Proofs.Ytjmkccckohcfkaa
