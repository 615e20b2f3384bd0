/- What the claim leans on, text 6. -/
import Derived.Test.YtjmkccckohcfkaaC5
set_option linter.unusedSimpArgs false
set_option linter.unusedVariables false

/- Part Sr. -/
namespace Go.Os
open Go Go.Pm Go.Oc Go.Oh
def sum3 (A B C : List Span) (k : Nat) : Span := addS (addS (atS A k) (atS B k)) (atS C k)
def inBd (bound : Int) (s : Span) : Bool := decide (-bound ≤ s.lo) && decide (s.hi ≤ bound)
/-- Do three such parts fit? -/
def fitB (bound : Int) (b0 b1 b2 : Bool) (A B C : List Span) : Bool := b0 && (b1 && (b2 && (List.range A.length).all fun k => inBd bound (sum3 A B C k)))
def tlAll (l : List Span) (n : Nat) : Bool := decide (l.length = n) && l.all (spannedB · (-1000) 1000)
end Go.Os
namespace Go.Proofs.Ytjmkccckohcfkaa
open Go.RowKit Go.Pm Go.Oc Go.Oh Go.Os
set_option maxRecDepth 100000
set_option linter.unusedVariables false
set_option maxHeartbeats 8000000

theorem sIs_c (a b k : Int) (s : TV) : PCalls Try.prog 85 [.agg [.int .i64 a, .int .i64 b, s], .cptr [.int .i64 k]] (.bool (a == k)) := by
  refine pcalls_by Try.mixes noSpec_ok (fn := Try.f85) Try.func85 rfl (by kernel_rfl) (by show 2 ≤ _; decide) ?_
  simp (decide := true) (maxSteps := 4000000) only [go_sem, Nat.reduceAdd, Nat.reduceSub, Nat.reduceMul, Nat.reduceDiv, Nat.reduceMod, Nat.reduceLT, Nat.reduceLeDiff, Nat.reduceEqDiff, Nat.reduceBEq, Nat.reduceBNe, Nat.reduceGT, Int.reduceAdd, Int.reduceSub, Int.reduceMul, Int.reduceNeg, Int.reduceLT, Int.reduceLE, Int.reduceEq, Int.reduceNe, Int.reduceBEq, Int.reduceBNe, Int.reduceToNat, Int.reduceGT, Int.reduceGE, ↓reduceIte, decide_true, decide_false, eq_self, Nat.mul_one, Nat.zero_mul, Nat.one_mul, Int.le_refl, Nat.le_refl, Int.cast_ofNat_Int, Try.f85]
noncomputable def sxIs : List TV → Option TV
  | [.agg [.int .i64 a, .int .i64 b, s], .cptr [.int .i64 k]] => some (.bool (a == k))
  | _ => none
theorem sxIs_ok : ∀ xs r, sxIs xs = some r → PCalls Try.prog 85 xs r := by
  intro xs r h
  unfold sxIs at h
  split at h
  · cases h; exact sIs_c _ _ _ _
  · cases h
attribute [go_sem] sxIs
noncomputable def spRa : Pm.Spec := { noSpec with fz := fun _ => true }
@[go_sem] theorem spRa_p (f : FuncId) (xs : List TV) : spRa.p f xs = Pm.Spec.p ({ noSpec with fz := fun _ => true }) f xs := rfl
@[go_sem] theorem spRa_h (f : FuncId) (ps : List PV) (hl : List PO) : spRa.h f ps hl = Pm.Spec.h ({ noSpec with fz := fun _ => true }) f ps hl := rfl
@[go_sem] theorem spRa_fz (f : FuncId) : spRa.fz f = Pm.Spec.fz ({ noSpec with fz := fun _ => true }) f := rfl
@[go_sem] theorem spRa_fr (f : FuncId) : spRa.fr f = Pm.Spec.fr ({ noSpec with fz := fun _ => true }) f := rfl
@[go_sem] theorem spRa_mu (t : TypeId) : spRa.mu t = Pm.Spec.mu ({ noSpec with fz := fun _ => true }) t := rfl
@[go_sem] theorem spRa_nf (t : TypeId) : spRa.nf t = Pm.Spec.nf ({ noSpec with fz := fun _ => true }) t := rfl
theorem spRa_ok : SpecOk Try.prog spRa := ⟨noSpec_ok.1, noSpec_ok.2⟩
theorem sOf_c {l : List Pt} {i : Nat} {p : Pt} (hp : l[i]? = some p) (kind : Int) (f : Bool) : PCalls Try.prog 84 [.int .i64 i, .int .i64 kind, .cptr [.sl (l.flatMap Pt.cs) l.length f]] (.agg [.int .i64 p.k, .int .i64 p.p, p.s, .fn 85 [] [.cptr [.int .i64 kind]]]) := by
  have hd := flat_at Pt.cs (n := 3) (fun _ => rfl) hp
  have hlt : (i : Int) < l.length := by have := (List.getElem?_eq_some_iff.1 hp).1; omega
  refine pcalls_by Try.mixes spRa_ok (fn := Try.f84) Try.func84 rfl (by kernel_rfl) (by show 3 ≤ _; decide) ?_
  simp (decide := true) (maxSteps := 4000000) only [go_sem, Nat.reduceAdd, Nat.reduceSub, Nat.reduceMul, Nat.reduceDiv, Nat.reduceMod, Nat.reduceLT, Nat.reduceLeDiff, Nat.reduceEqDiff, Nat.reduceBEq, Nat.reduceBNe, Nat.reduceGT, Int.reduceAdd, Int.reduceSub, Int.reduceMul, Int.reduceNeg, Int.reduceLT, Int.reduceLE, Int.reduceEq, Int.reduceNe, Int.reduceBEq, Int.reduceBNe, Int.reduceToNat, Int.reduceGT, Int.reduceGE, ↓reduceIte, decide_true, decide_false, eq_self, Nat.mul_one, Nat.zero_mul, Nat.one_mul, Int.le_refl, Nat.le_refl, Int.cast_ofNat_Int, Try.f84, hd, hlt, Int.toNat_natCast, Pt.cs]
noncomputable def sxOf : List TV → Option TV
  | [.int .i64 i, .int .i64 kind, .cptr [.sl cs n f]] => match unP cs with
    | some l => if n = l.length ∧ 0 ≤ i then (match l[i.toNat]? with
      | some p => some (.agg [.int .i64 p.k, .int .i64 p.p, p.s, .fn 85 [] [.cptr [.int .i64 kind]]])
      | none => none) else none
    | none => none
  | _ => none
theorem sxOf_ok : ∀ xs r, sxOf xs = some r → PCalls Try.prog 84 xs r := by
  intro xs r h
  unfold sxOf at h
  split at h
  · split at h
    · rename_i l hl
      split at h
      · rename_i hc
        split at h
        · rename_i p hp
          cases h
          obtain ⟨rfl, h0⟩ := hc
          have := sOf_c hp
          rw [Int.toNat_of_nonneg h0, ← unP_some hl] at this
          exact this _ _
        · cases h
      · cases h
    · cases h
  · cases h
attribute [go_sem] sxOf
noncomputable def spRb : Pm.Spec := (noSpec.one 85 sxIs).one 95 sxSum
@[go_sem] theorem spRb_p (f : FuncId) (xs : List TV) : spRb.p f xs = Pm.Spec.p ((noSpec.one 85 sxIs).one 95 sxSum) f xs := rfl
@[go_sem] theorem spRb_h (f : FuncId) (ps : List PV) (hl : List PO) : spRb.h f ps hl = Pm.Spec.h ((noSpec.one 85 sxIs).one 95 sxSum) f ps hl := rfl
@[go_sem] theorem spRb_fz (f : FuncId) : spRb.fz f = Pm.Spec.fz ((noSpec.one 85 sxIs).one 95 sxSum) f := rfl
@[go_sem] theorem spRb_fr (f : FuncId) : spRb.fr f = Pm.Spec.fr ((noSpec.one 85 sxIs).one 95 sxSum) f := rfl
@[go_sem] theorem spRb_mu (t : TypeId) : spRb.mu t = Pm.Spec.mu ((noSpec.one 85 sxIs).one 95 sxSum) t := rfl
@[go_sem] theorem spRb_nf (t : TypeId) : spRb.nf t = Pm.Spec.nf ((noSpec.one 85 sxIs).one 95 sxSum) t := rfl
theorem spRb_ok : SpecOk Try.prog spRb := Spec.one_ok sxSum_ok (Spec.one_ok sxIs_ok noSpec_ok)
theorem sFit_c (bound k0 k1 k2 p0 p1 p2 c0 c1 c2 : Int) (A B C : List Span) (f0 f1 f2 f : Bool) (hb : 0 ≤ bound ∧ bound ≤ 5000) (hn : 1 ≤ A.length ∧ A.length ≤ 12) (hA : tlAll A A.length = true) (hB : tlAll B A.length = true) (hC : tlAll C A.length = true) :
    PCalls Try.prog 86 [.int .i64 bound, .sl [.int .i64 k0, .int .i64 p0, .sl (A.flatMap Span.cs) A.length f0, .fn 85 [] [.cptr [.int .i64 c0]], .int .i64 k1, .int .i64 p1, .sl (B.flatMap Span.cs) B.length f1, .fn 85 [] [.cptr [.int .i64 c1]],
      .int .i64 k2, .int .i64 p2, .sl (C.flatMap Span.cs) C.length f2, .fn 85 [] [.cptr [.int .i64 c2]]] 3 f] (.bool (fitB bound (k0 == c0) (k1 == c1) (k2 == c2) A B C)) := by
  have hBl : B.length = A.length := by unfold tlAll at hB; simp at hB; exact hB.1
  have hCl : C.length = A.length := by unfold tlAll at hC; simp at hC; exact hC.1
  have bd : ∀ (L : List Span), tlAll L A.length = true → ∀ s ∈ L, -1000 ≤ s.lo ∧ s.lo ≤ s.hi ∧ s.hi ≤ 1000 := fun L hL s hs => by
    unfold tlAll at hL
    rw [Bool.and_eq_true] at hL
    exact spannedB_iff.1 (List.all_eq_true.1 hL.2 s hs)
  refine pcalls_by Try.mixes spRb_ok (fn := Try.f86) Try.func86 rfl (by kernel_rfl) (by show 2 ≤ _; decide) ?_
  simp (decide := true) (maxSteps := 4000000) only [go_sem, Nat.reduceAdd, Nat.reduceSub, Nat.reduceMul, Nat.reduceDiv, Nat.reduceMod, Nat.reduceLT, Nat.reduceLeDiff, Nat.reduceEqDiff, Nat.reduceBEq, Nat.reduceBNe, Nat.reduceGT, Int.reduceAdd, Int.reduceSub, Int.reduceMul, Int.reduceNeg, Int.reduceLT, Int.reduceLE, Int.reduceEq, Int.reduceNe, Int.reduceBEq, Int.reduceBNe, Int.reduceToNat, Int.reduceGT, Int.reduceGE, ↓reduceIte, decide_true, decide_false, eq_self, Nat.mul_one, Nat.zero_mul, Nat.one_mul, Int.le_refl, Nat.le_refl, Int.cast_ofNat_Int, Try.f86]
  refine pwpC_loopU (A := { j : Nat // j ≤ 3 ∧ (0 < j → (k0 == c0) = true) ∧ (1 < j → (k1 == c1) = true) ∧ (2 < j → (k2 == c2) = true) }) [0, 1, 4, 9, 10] (fun j => [(11, .t (.int .i64 j.1))]) (fun _ => []) (fun j => 3 - j.1) ⟨0, by omega, by omega, by omega, by omega⟩ (by decide) (fun _ => by rfl) ?_ fun Q1 hQ1 ⟨j, hj, hj0, hj1, hj2⟩ I1 hI1 => ?_
  · simp (decide := true) (maxSteps := 4000000) only [go_sem, Nat.reduceAdd, Nat.reduceSub, Nat.reduceMul, Nat.reduceDiv, Nat.reduceMod, Nat.reduceLT, Nat.reduceLeDiff, Nat.reduceEqDiff, Nat.reduceBEq, Nat.reduceBNe, Nat.reduceGT, Int.reduceAdd, Int.reduceSub, Int.reduceMul, Int.reduceNeg, Int.reduceLT, Int.reduceLE, Int.reduceEq, Int.reduceNe, Int.reduceBEq, Int.reduceBNe, Int.reduceToNat, Int.reduceGT, Int.reduceGE, ↓reduceIte, decide_true, decide_false, eq_self, Nat.mul_one, Nat.zero_mul, Nat.one_mul, Int.le_refl, Nat.le_refl, Int.cast_ofNat_Int]
  · rcases (show j = 0 ∨ j = 1 ∨ j = 2 ∨ j = 3 by omega) with rfl | rfl | rfl | rfl
    · have d1 : (0 : Int) < 3 := by decide
      rcases (Bool.eq_false_or_eq_true (k0 == c0)).symm with hk | hk
      · simp (decide := true) (maxSteps := 4000000) only [go_sem, Nat.reduceAdd, Nat.reduceSub, Nat.reduceMul, Nat.reduceDiv, Nat.reduceMod, Nat.reduceLT, Nat.reduceLeDiff, Nat.reduceEqDiff, Nat.reduceBEq, Nat.reduceBNe, Nat.reduceGT, Int.reduceAdd, Int.reduceSub, Int.reduceMul, Int.reduceNeg, Int.reduceLT, Int.reduceLE, Int.reduceEq, Int.reduceNe, Int.reduceBEq, Int.reduceBNe, Int.reduceToNat, Int.reduceGT, Int.reduceGE, ↓reduceIte, decide_true, decide_false, eq_self, Nat.mul_one, Nat.zero_mul, Nat.one_mul, Int.le_refl, Nat.le_refl, Int.cast_ofNat_Int, d1, hk]
        refine hQ1 _ _ ?_
        simp (decide := true) (maxSteps := 4000000) only [go_sem, Nat.reduceAdd, Nat.reduceSub, Nat.reduceMul, Nat.reduceDiv, Nat.reduceMod, Nat.reduceLT, Nat.reduceLeDiff, Nat.reduceEqDiff, Nat.reduceBEq, Nat.reduceBNe, Nat.reduceGT, Int.reduceAdd, Int.reduceSub, Int.reduceMul, Int.reduceNeg, Int.reduceLT, Int.reduceLE, Int.reduceEq, Int.reduceNe, Int.reduceBEq, Int.reduceBNe, Int.reduceToNat, Int.reduceGT, Int.reduceGE, ↓reduceIte, decide_true, decide_false, eq_self, Nat.mul_one, Nat.zero_mul, Nat.one_mul, Int.le_refl, Nat.le_refl, Int.cast_ofNat_Int, fitB, hk, Bool.false_and]
      · simp (decide := true) (maxSteps := 4000000) only [go_sem, Nat.reduceAdd, Nat.reduceSub, Nat.reduceMul, Nat.reduceDiv, Nat.reduceMod, Nat.reduceLT, Nat.reduceLeDiff, Nat.reduceEqDiff, Nat.reduceBEq, Nat.reduceBNe, Nat.reduceGT, Int.reduceAdd, Int.reduceSub, Int.reduceMul, Int.reduceNeg, Int.reduceLT, Int.reduceLE, Int.reduceEq, Int.reduceNe, Int.reduceBEq, Int.reduceBNe, Int.reduceToNat, Int.reduceGT, Int.reduceGE, ↓reduceIte, decide_true, decide_false, eq_self, Nat.mul_one, Nat.zero_mul, Nat.one_mul, Int.le_refl, Nat.le_refl, Int.cast_ofNat_Int, d1, hk]
        refine hI1 _ ⟨1, by omega, fun _ => hk, by omega, by omega⟩ (by simp only; omega) ?_
        simp (decide := true) (maxSteps := 4000000) only [go_sem, Nat.reduceAdd, Nat.reduceSub, Nat.reduceMul, Nat.reduceDiv, Nat.reduceMod, Nat.reduceLT, Nat.reduceLeDiff, Nat.reduceEqDiff, Nat.reduceBEq, Nat.reduceBNe, Nat.reduceGT, Int.reduceAdd, Int.reduceSub, Int.reduceMul, Int.reduceNeg, Int.reduceLT, Int.reduceLE, Int.reduceEq, Int.reduceNe, Int.reduceBEq, Int.reduceBNe, Int.reduceToNat, Int.reduceGT, Int.reduceGE, ↓reduceIte, decide_true, decide_false, eq_self, Nat.mul_one, Nat.zero_mul, Nat.one_mul, Int.le_refl, Nat.le_refl, Int.cast_ofNat_Int, wl1]
    · have d1 : (1 : Int) < 3 := by decide
      rcases (Bool.eq_false_or_eq_true (k1 == c1)).symm with hk | hk
      · simp (decide := true) (maxSteps := 4000000) only [go_sem, Nat.reduceAdd, Nat.reduceSub, Nat.reduceMul, Nat.reduceDiv, Nat.reduceMod, Nat.reduceLT, Nat.reduceLeDiff, Nat.reduceEqDiff, Nat.reduceBEq, Nat.reduceBNe, Nat.reduceGT, Int.reduceAdd, Int.reduceSub, Int.reduceMul, Int.reduceNeg, Int.reduceLT, Int.reduceLE, Int.reduceEq, Int.reduceNe, Int.reduceBEq, Int.reduceBNe, Int.reduceToNat, Int.reduceGT, Int.reduceGE, ↓reduceIte, decide_true, decide_false, eq_self, Nat.mul_one, Nat.zero_mul, Nat.one_mul, Int.le_refl, Nat.le_refl, Int.cast_ofNat_Int, d1, hk]
        refine hQ1 _ _ ?_
        simp (decide := true) (maxSteps := 4000000) only [go_sem, Nat.reduceAdd, Nat.reduceSub, Nat.reduceMul, Nat.reduceDiv, Nat.reduceMod, Nat.reduceLT, Nat.reduceLeDiff, Nat.reduceEqDiff, Nat.reduceBEq, Nat.reduceBNe, Nat.reduceGT, Int.reduceAdd, Int.reduceSub, Int.reduceMul, Int.reduceNeg, Int.reduceLT, Int.reduceLE, Int.reduceEq, Int.reduceNe, Int.reduceBEq, Int.reduceBNe, Int.reduceToNat, Int.reduceGT, Int.reduceGE, ↓reduceIte, decide_true, decide_false, eq_self, Nat.mul_one, Nat.zero_mul, Nat.one_mul, Int.le_refl, Nat.le_refl, Int.cast_ofNat_Int, fitB, hk, hj0 (by omega), Bool.false_and, Bool.true_and]
      · simp (decide := true) (maxSteps := 4000000) only [go_sem, Nat.reduceAdd, Nat.reduceSub, Nat.reduceMul, Nat.reduceDiv, Nat.reduceMod, Nat.reduceLT, Nat.reduceLeDiff, Nat.reduceEqDiff, Nat.reduceBEq, Nat.reduceBNe, Nat.reduceGT, Int.reduceAdd, Int.reduceSub, Int.reduceMul, Int.reduceNeg, Int.reduceLT, Int.reduceLE, Int.reduceEq, Int.reduceNe, Int.reduceBEq, Int.reduceBNe, Int.reduceToNat, Int.reduceGT, Int.reduceGE, ↓reduceIte, decide_true, decide_false, eq_self, Nat.mul_one, Nat.zero_mul, Nat.one_mul, Int.le_refl, Nat.le_refl, Int.cast_ofNat_Int, d1, hk]
        refine hI1 _ ⟨2, by omega, fun _ => hj0 (by omega), fun _ => hk, by omega⟩ (by simp only; omega) ?_
        simp (decide := true) (maxSteps := 4000000) only [go_sem, Nat.reduceAdd, Nat.reduceSub, Nat.reduceMul, Nat.reduceDiv, Nat.reduceMod, Nat.reduceLT, Nat.reduceLeDiff, Nat.reduceEqDiff, Nat.reduceBEq, Nat.reduceBNe, Nat.reduceGT, Int.reduceAdd, Int.reduceSub, Int.reduceMul, Int.reduceNeg, Int.reduceLT, Int.reduceLE, Int.reduceEq, Int.reduceNe, Int.reduceBEq, Int.reduceBNe, Int.reduceToNat, Int.reduceGT, Int.reduceGE, ↓reduceIte, decide_true, decide_false, eq_self, Nat.mul_one, Nat.zero_mul, Nat.one_mul, Int.le_refl, Nat.le_refl, Int.cast_ofNat_Int, wl2]
    · have d1 : (2 : Int) < 3 := by decide
      rcases (Bool.eq_false_or_eq_true (k2 == c2)).symm with hk | hk
      · simp (decide := true) (maxSteps := 4000000) only [go_sem, Nat.reduceAdd, Nat.reduceSub, Nat.reduceMul, Nat.reduceDiv, Nat.reduceMod, Nat.reduceLT, Nat.reduceLeDiff, Nat.reduceEqDiff, Nat.reduceBEq, Nat.reduceBNe, Nat.reduceGT, Int.reduceAdd, Int.reduceSub, Int.reduceMul, Int.reduceNeg, Int.reduceLT, Int.reduceLE, Int.reduceEq, Int.reduceNe, Int.reduceBEq, Int.reduceBNe, Int.reduceToNat, Int.reduceGT, Int.reduceGE, ↓reduceIte, decide_true, decide_false, eq_self, Nat.mul_one, Nat.zero_mul, Nat.one_mul, Int.le_refl, Nat.le_refl, Int.cast_ofNat_Int, d1, hk]
        refine hQ1 _ _ ?_
        simp (decide := true) (maxSteps := 4000000) only [go_sem, Nat.reduceAdd, Nat.reduceSub, Nat.reduceMul, Nat.reduceDiv, Nat.reduceMod, Nat.reduceLT, Nat.reduceLeDiff, Nat.reduceEqDiff, Nat.reduceBEq, Nat.reduceBNe, Nat.reduceGT, Int.reduceAdd, Int.reduceSub, Int.reduceMul, Int.reduceNeg, Int.reduceLT, Int.reduceLE, Int.reduceEq, Int.reduceNe, Int.reduceBEq, Int.reduceBNe, Int.reduceToNat, Int.reduceGT, Int.reduceGE, ↓reduceIte, decide_true, decide_false, eq_self, Nat.mul_one, Nat.zero_mul, Nat.one_mul, Int.le_refl, Nat.le_refl, Int.cast_ofNat_Int, fitB, hk, hj0 (by omega), hj1 (by omega), Bool.false_and, Bool.true_and]
      · simp (decide := true) (maxSteps := 4000000) only [go_sem, Nat.reduceAdd, Nat.reduceSub, Nat.reduceMul, Nat.reduceDiv, Nat.reduceMod, Nat.reduceLT, Nat.reduceLeDiff, Nat.reduceEqDiff, Nat.reduceBEq, Nat.reduceBNe, Nat.reduceGT, Int.reduceAdd, Int.reduceSub, Int.reduceMul, Int.reduceNeg, Int.reduceLT, Int.reduceLE, Int.reduceEq, Int.reduceNe, Int.reduceBEq, Int.reduceBNe, Int.reduceToNat, Int.reduceGT, Int.reduceGE, ↓reduceIte, decide_true, decide_false, eq_self, Nat.mul_one, Nat.zero_mul, Nat.one_mul, Int.le_refl, Nat.le_refl, Int.cast_ofNat_Int, d1, hk]
        refine hI1 _ ⟨3, by omega, fun _ => hj0 (by omega), fun _ => hj1 (by omega), fun _ => hk⟩ (by simp only; omega) ?_
        simp (decide := true) (maxSteps := 4000000) only [go_sem, Nat.reduceAdd, Nat.reduceSub, Nat.reduceMul, Nat.reduceDiv, Nat.reduceMod, Nat.reduceLT, Nat.reduceLeDiff, Nat.reduceEqDiff, Nat.reduceBEq, Nat.reduceBNe, Nat.reduceGT, Int.reduceAdd, Int.reduceSub, Int.reduceMul, Int.reduceNeg, Int.reduceLT, Int.reduceLE, Int.reduceEq, Int.reduceNe, Int.reduceBEq, Int.reduceBNe, Int.reduceToNat, Int.reduceGT, Int.reduceGE, ↓reduceIte, decide_true, decide_false, eq_self, Nat.mul_one, Nat.zero_mul, Nat.one_mul, Int.le_refl, Nat.le_refl, Int.cast_ofNat_Int, wl3]
    · have hk0 := hj0 (by omega)
      have hk1 := hj1 (by omega)
      have hk2 := hj2 (by omega)
      simp (decide := true) (maxSteps := 4000000) only [go_sem, Nat.reduceAdd, Nat.reduceSub, Nat.reduceMul, Nat.reduceDiv, Nat.reduceMod, Nat.reduceLT, Nat.reduceLeDiff, Nat.reduceEqDiff, Nat.reduceBEq, Nat.reduceBNe, Nat.reduceGT, Int.reduceAdd, Int.reduceSub, Int.reduceMul, Int.reduceNeg, Int.reduceLT, Int.reduceLE, Int.reduceEq, Int.reduceNe, Int.reduceBEq, Int.reduceBNe, Int.reduceToNat, Int.reduceGT, Int.reduceGE, ↓reduceIte, decide_true, decide_false, eq_self, Nat.mul_one, Nat.zero_mul, Nat.one_mul, Int.le_refl, Nat.le_refl, Int.cast_ofNat_Int]
      refine hQ1 _ _ ?_
      have hfb : fitB bound (k0 == c0) (k1 == c1) (k2 == c2) A B C = (List.range A.length).all fun k => inBd bound (sum3 A B C k) := by unfold fitB; rw [hk0, hk1, hk2]; simp
      rw [hfb]
      simp (decide := true) (maxSteps := 4000000) only [go_sem, Nat.reduceAdd, Nat.reduceSub, Nat.reduceMul, Nat.reduceDiv, Nat.reduceMod, Nat.reduceLT, Nat.reduceLeDiff, Nat.reduceEqDiff, Nat.reduceBEq, Nat.reduceBNe, Nat.reduceGT, Int.reduceAdd, Int.reduceSub, Int.reduceMul, Int.reduceNeg, Int.reduceLT, Int.reduceLE, Int.reduceEq, Int.reduceNe, Int.reduceBEq, Int.reduceBNe, Int.reduceToNat, Int.reduceGT, Int.reduceGE, ↓reduceIte, decide_true, decide_false, eq_self, Nat.mul_one, Nat.zero_mul, Nat.one_mul, Int.le_refl, Nat.le_refl, Int.cast_ofNat_Int]
      refine pwpC_loopU (A := { k : Nat // k ≤ A.length ∧ ∀ j, j < k → inBd bound (sum3 A B C j) = true }) [0, 1, 4, 27] (fun k => [(28, .t (.int .i64 k.1))]) (fun _ => []) (fun k => A.length - k.1) ⟨0, by omega, fun j hj => by omega⟩ (by decide) (fun _ => by rfl) ?_ fun Q2 hQ2 ⟨k, hk, hkk⟩ I2 hI2 => ?_
      · simp (decide := true) (maxSteps := 4000000) only [go_sem, Nat.reduceAdd, Nat.reduceSub, Nat.reduceMul, Nat.reduceDiv, Nat.reduceMod, Nat.reduceLT, Nat.reduceLeDiff, Nat.reduceEqDiff, Nat.reduceBEq, Nat.reduceBNe, Nat.reduceGT, Int.reduceAdd, Int.reduceSub, Int.reduceMul, Int.reduceNeg, Int.reduceLT, Int.reduceLE, Int.reduceEq, Int.reduceNe, Int.reduceBEq, Int.reduceBNe, Int.reduceToNat, Int.reduceGT, Int.reduceGE, ↓reduceIte, decide_true, decide_false, eq_self, Nat.mul_one, Nat.zero_mul, Nat.one_mul, Int.le_refl, Nat.le_refl, Int.cast_ofNat_Int]
      · by_cases hlt : (k : Int) < A.length
        · obtain ⟨x, hx⟩ := get_lt (l := A) (k := k) (by omega)
          obtain ⟨y, hy⟩ := get_lt (l := B) (k := k) (by omega)
          obtain ⟨z, hz⟩ := get_lt (l := C) (k := k) (by omega)
          have dx := flat_at Span.cs (n := 2) (fun _ => rfl) hx
          have dy := flat_at Span.cs (n := 2) (fun _ => rfl) hy
          have dz := flat_at Span.cs (n := 2) (fun _ => rfl) hz
          have bx := bd A hA x (List.mem_of_getElem? hx)
          have by' := bd B hB y (List.mem_of_getElem? hy)
          have bz := bd C hC z (List.mem_of_getElem? hz)
          have hc1 : IntKind.i64.wrap (k + 1) = ((k + 1 : Nat) : Int) := by rw [wrap_in (by omega) (by omega)]; omega
          have hs3 : sum3 A B C k = addS (addS x y) z := by unfold sum3; rw [atS_eq hx, atS_eq hy, atS_eq hz]
          have hun : unS [.int .i64 x.lo, .int .i64 x.hi, .int .i64 y.lo, .int .i64 y.hi, .int .i64 z.lo, .int .i64 z.hi] = some [x, y, z] := unS_eq [x, y, z]
          have hbd : [x, y, z].all bdB = true := by
            have b1 : bdB x = true := bdB_iff.2 (by omega)
            have b2 : bdB y = true := bdB_iff.2 (by omega)
            have b3 : bdB z = true := bdB_iff.2 (by omega)
            simp [b1, b2, b3]
          have hsm : sumL [x, y, z] = addS (addS x y) z := by simp [sumL, addS]
          obtain ⟨S, hS⟩ : ∃ S, addS (addS x y) z = S := ⟨_, rfl⟩
          rw [hS] at hsm hs3
          have w0 : IntKind.i64.wrap (0 - bound) = -bound := by rw [wrap_in (by omega) (by omega)]; omega
          by_cases q1 : S.lo < -bound
          · have hf : ((List.range A.length).all fun k => inBd bound (sum3 A B C k)) = false := by
              rw [List.all_eq_false]
              refine ⟨k, List.mem_range.2 (by omega), ?_⟩
              rw [hs3]; unfold inBd; simp; intro; omega
            simp (decide := true) (maxSteps := 4000000) only [go_sem, Nat.reduceAdd, Nat.reduceSub, Nat.reduceMul, Nat.reduceDiv, Nat.reduceMod, Nat.reduceLT, Nat.reduceLeDiff, Nat.reduceEqDiff, Nat.reduceBEq, Nat.reduceBNe, Nat.reduceGT, Int.reduceAdd, Int.reduceSub, Int.reduceMul, Int.reduceNeg, Int.reduceLT, Int.reduceLE, Int.reduceEq, Int.reduceNe, Int.reduceBEq, Int.reduceBNe, Int.reduceToNat, Int.reduceGT, Int.reduceGE, ↓reduceIte, decide_true, decide_false, eq_self, Nat.mul_one, Nat.zero_mul, Nat.one_mul, Int.le_refl, Nat.le_refl, Int.cast_ofNat_Int, hlt, dx, dy, dz, Span.cs, Span.t, hBl, hCl, Int.toNat_natCast, hun, hbd, hsm, w0, q1]
            refine hQ2 _ _ ?_
            simp (decide := true) (maxSteps := 4000000) only [go_sem, Nat.reduceAdd, Nat.reduceSub, Nat.reduceMul, Nat.reduceDiv, Nat.reduceMod, Nat.reduceLT, Nat.reduceLeDiff, Nat.reduceEqDiff, Nat.reduceBEq, Nat.reduceBNe, Nat.reduceGT, Int.reduceAdd, Int.reduceSub, Int.reduceMul, Int.reduceNeg, Int.reduceLT, Int.reduceLE, Int.reduceEq, Int.reduceNe, Int.reduceBEq, Int.reduceBNe, Int.reduceToNat, Int.reduceGT, Int.reduceGE, ↓reduceIte, decide_true, decide_false, eq_self, Nat.mul_one, Nat.zero_mul, Nat.one_mul, Int.le_refl, Nat.le_refl, Int.cast_ofNat_Int, hf]
          · by_cases q2 : S.hi > bound
            · have hf : ((List.range A.length).all fun k => inBd bound (sum3 A B C k)) = false := by
                rw [List.all_eq_false]
                refine ⟨k, List.mem_range.2 (by omega), ?_⟩
                rw [hs3]; unfold inBd; simp; intro; omega
              simp (decide := true) (maxSteps := 4000000) only [go_sem, Nat.reduceAdd, Nat.reduceSub, Nat.reduceMul, Nat.reduceDiv, Nat.reduceMod, Nat.reduceLT, Nat.reduceLeDiff, Nat.reduceEqDiff, Nat.reduceBEq, Nat.reduceBNe, Nat.reduceGT, Int.reduceAdd, Int.reduceSub, Int.reduceMul, Int.reduceNeg, Int.reduceLT, Int.reduceLE, Int.reduceEq, Int.reduceNe, Int.reduceBEq, Int.reduceBNe, Int.reduceToNat, Int.reduceGT, Int.reduceGE, ↓reduceIte, decide_true, decide_false, eq_self, Nat.mul_one, Nat.zero_mul, Nat.one_mul, Int.le_refl, Nat.le_refl, Int.cast_ofNat_Int, hlt, dx, dy, dz, Span.cs, Span.t, hBl, hCl, Int.toNat_natCast, hun, hbd, hsm, w0, q1, q2]
              refine hQ2 _ _ ?_
              simp (decide := true) (maxSteps := 4000000) only [go_sem, Nat.reduceAdd, Nat.reduceSub, Nat.reduceMul, Nat.reduceDiv, Nat.reduceMod, Nat.reduceLT, Nat.reduceLeDiff, Nat.reduceEqDiff, Nat.reduceBEq, Nat.reduceBNe, Nat.reduceGT, Int.reduceAdd, Int.reduceSub, Int.reduceMul, Int.reduceNeg, Int.reduceLT, Int.reduceLE, Int.reduceEq, Int.reduceNe, Int.reduceBEq, Int.reduceBNe, Int.reduceToNat, Int.reduceGT, Int.reduceGE, ↓reduceIte, decide_true, decide_false, eq_self, Nat.mul_one, Nat.zero_mul, Nat.one_mul, Int.le_refl, Nat.le_refl, Int.cast_ofNat_Int, hf]
            · simp (decide := true) (maxSteps := 4000000) only [go_sem, Nat.reduceAdd, Nat.reduceSub, Nat.reduceMul, Nat.reduceDiv, Nat.reduceMod, Nat.reduceLT, Nat.reduceLeDiff, Nat.reduceEqDiff, Nat.reduceBEq, Nat.reduceBNe, Nat.reduceGT, Int.reduceAdd, Int.reduceSub, Int.reduceMul, Int.reduceNeg, Int.reduceLT, Int.reduceLE, Int.reduceEq, Int.reduceNe, Int.reduceBEq, Int.reduceBNe, Int.reduceToNat, Int.reduceGT, Int.reduceGE, ↓reduceIte, decide_true, decide_false, eq_self, Nat.mul_one, Nat.zero_mul, Nat.one_mul, Int.le_refl, Nat.le_refl, Int.cast_ofNat_Int, hlt, dx, dy, dz, Span.cs, Span.t, hBl, hCl, Int.toNat_natCast, hun, hbd, hsm, w0, q1, q2]
              refine hI2 _ ⟨k + 1, by omega, fun j hj => ?_⟩ (by simp only; omega) ?_
              · by_cases e : j = k
                · subst e; rw [hs3]; unfold inBd; simp; omega
                · exact hkk j (by omega)
              · simp (decide := true) (maxSteps := 4000000) only [go_sem, Nat.reduceAdd, Nat.reduceSub, Nat.reduceMul, Nat.reduceDiv, Nat.reduceMod, Nat.reduceLT, Nat.reduceLeDiff, Nat.reduceEqDiff, Nat.reduceBEq, Nat.reduceBNe, Nat.reduceGT, Int.reduceAdd, Int.reduceSub, Int.reduceMul, Int.reduceNeg, Int.reduceLT, Int.reduceLE, Int.reduceEq, Int.reduceNe, Int.reduceBEq, Int.reduceBNe, Int.reduceToNat, Int.reduceGT, Int.reduceGE, ↓reduceIte, decide_true, decide_false, eq_self, Nat.mul_one, Nat.zero_mul, Nat.one_mul, Int.le_refl, Nat.le_refl, Int.cast_ofNat_Int, hc1, hBl, hCl]
        · have hke : k = A.length := by omega
          have ht : ((List.range A.length).all fun k => inBd bound (sum3 A B C k)) = true := List.all_eq_true.2 fun j hj => hkk j (by rw [hke]; exact List.mem_range.1 hj)
          subst hke
          simp (decide := true) (maxSteps := 4000000) only [go_sem, Nat.reduceAdd, Nat.reduceSub, Nat.reduceMul, Nat.reduceDiv, Nat.reduceMod, Nat.reduceLT, Nat.reduceLeDiff, Nat.reduceEqDiff, Nat.reduceBEq, Nat.reduceBNe, Nat.reduceGT, Int.reduceAdd, Int.reduceSub, Int.reduceMul, Int.reduceNeg, Int.reduceLT, Int.reduceLE, Int.reduceEq, Int.reduceNe, Int.reduceBEq, Int.reduceBNe, Int.reduceToNat, Int.reduceGT, Int.reduceGE, ↓reduceIte, decide_true, decide_false, eq_self, Nat.mul_one, Nat.zero_mul, Nat.one_mul, Int.le_refl, Nat.le_refl, Int.cast_ofNat_Int, hlt]
          refine hQ2 _ _ ?_
          simp (decide := true) (maxSteps := 4000000) only [go_sem, Nat.reduceAdd, Nat.reduceSub, Nat.reduceMul, Nat.reduceDiv, Nat.reduceMod, Nat.reduceLT, Nat.reduceLeDiff, Nat.reduceEqDiff, Nat.reduceBEq, Nat.reduceBNe, Nat.reduceGT, Int.reduceAdd, Int.reduceSub, Int.reduceMul, Int.reduceNeg, Int.reduceLT, Int.reduceLE, Int.reduceEq, Int.reduceNe, Int.reduceBEq, Int.reduceBNe, Int.reduceToNat, Int.reduceGT, Int.reduceGE, ↓reduceIte, decide_true, decide_false, eq_self, Nat.mul_one, Nat.zero_mul, Nat.one_mul, Int.le_refl, Nat.le_refl, Int.cast_ofNat_Int, ht]
theorem sFit_c' (bound k0 k1 k2 p0 p1 p2 c0 c1 c2 : Int) (A B C : List Span) (f0 f1 f2 f : Bool) (hb : 0 ≤ bound ∧ bound ≤ 5000) (hn : 1 ≤ A.length ∧ A.length ≤ 12) (hA : tlAll A A.length = true) (hB : tlAll B A.length = true) (hC : tlAll C A.length = true) :
    PCalls Try.prog 86 [.int .i64 bound, .sl [.int .i64 k0, .int .i64 p0, .sl (A.flatMap Span.cs) A.length f0, .fn 85 [] [.cptr [.int .i64 c0]], .int .i64 k1, .int .i64 p1, .sl (B.flatMap Span.cs) A.length f1, .fn 85 [] [.cptr [.int .i64 c1]],
      .int .i64 k2, .int .i64 p2, .sl (C.flatMap Span.cs) A.length f2, .fn 85 [] [.cptr [.int .i64 c2]]] 3 f] (.bool (fitB bound (k0 == c0) (k1 == c1) (k2 == c2) A B C)) := by
  have := sFit_c bound k0 k1 k2 p0 p1 p2 c0 c1 c2 A B C f0 f1 f2 f hb hn hA hB hC
  have eB : B.length = A.length := by unfold tlAll at hB; simp at hB; exact hB.1
  have eC : C.length = A.length := by unfold tlAll at hC; simp at hC; exact hC.1
  rw [eB, eC] at this
  exact this
noncomputable def sxFit : List TV → Option TV
  | [.int .i64 bound, .sl [.int .i64 k0, .int .i64 p0, .sl us na f0, .fn F0 [] [.cptr [.int .i64 c0]], .int .i64 k1, .int .i64 p1, .sl vs nb f1, .fn F1 [] [.cptr [.int .i64 c1]], .int .i64 k2, .int .i64 p2, .sl ws nc f2, .fn F2 [] [.cptr [.int .i64 c2]]] 3 f] => match unS us, unS vs, unS ws with
    | some A, some B, some C => if (F0 = 85 ∧ F1 = 85 ∧ F2 = 85) ∧ (na = A.length ∧ nb = A.length ∧ nc = A.length) ∧ (0 ≤ bound ∧ bound ≤ 5000) ∧ (1 ≤ A.length ∧ A.length ≤ 12) ∧ tlAll A A.length = true ∧ tlAll B A.length = true ∧ tlAll C A.length = true then
        some (.bool (fitB bound (k0 == c0) (k1 == c1) (k2 == c2) A B C)) else none
    | _, _, _ => none
  | _ => none
theorem sxFit_ok : ∀ xs r, sxFit xs = some r → PCalls Try.prog 86 xs r := by
  intro xs r h
  unfold sxFit at h
  split at h
  · split at h
    · rename_i A B C hA hB hC
      split at h
      · rename_i hc
        cases h
        obtain ⟨⟨rfl, rfl, rfl⟩, ⟨rfl, rfl, rfl⟩, hb, hn, h1, h2, h3⟩ := hc
        rw [unS_some hA, unS_some hB, unS_some hC]
        exact sFit_c' _ _ _ _ _ _ _ _ _ _ A B C _ _ _ _ hb hn h1 h2 h3
      · cases h
    · cases h
  · cases h
attribute [go_sem] sxFit
noncomputable def sxIsStock : List TV → Option TV
  | [s] => match rowL unP s with
    | some l => if l.length ≤ 9000000000000 ∧ l.all decP = true then some (.bool (stockB l)) else none
    | none => none
  | _ => none
theorem sxIsStock_ok : ∀ xs r, sxIsStock xs = some r → PCalls Try.prog 83 xs r := by
  intro xs r h
  unfold sxIsStock at h
  split at h
  · split at h
    · rename_i l hl
      have hl := rowL_some (un := unP) (by first | rfl | exact unP_nil) (@unP_some) hl
      split at h
      · rename_i hc; cases h; exact sIsStock_c hl hc.1 hc.2
      · cases h
    · cases h
  · cases h
attribute [go_sem] sxIsStock
end Go.Proofs.Ytjmkccckohcfkaa

/- Part Ss. -/
namespace Go.Os
open Go Go.Pm Go.Oc Go.Oh
structure AS where
  parts : Option (Nat × Nat × Nat)
  price : Int
def partsT : Option (Nat × Nat × Nat) → TV
  | none => .nilSl
  | some (a, b, c) => .sl [.int .i64 a, .int .i64 b, .int .i64 c] 3 true
noncomputable def prc (l : List Pt) (i : Nat) : Int := match l[i]? with | some x => x.p | none => 0
noncomputable def knd (l : List Pt) (i : Nat) : Int := match l[i]? with | some x => x.k | none => 0
noncomputable def ers (l : List Pt) (i : Nat) : List Span := match l[i]? with | some x => errs x | none => []
noncomputable def cost3 (l : List Pt) (a b c : Nat) : Int := prc l a + prc l b + prc l c
noncomputable def fit3 (bound : Int) (l : List Pt) (a b c : Nat) : Bool := fitB bound (knd l a == 0) (knd l b == 1) (knd l c == 2) (ers l a) (ers l b) (ers l c)
noncomputable def asStep (bound : Int) (l : List Pt) (a b : Nat) (st : AS) (c : Nat) : AS :=
  if (st.parts.isNone || decide (cost3 l a b c < st.price)) && fit3 bound l a b c then ⟨some (a, b, c), cost3 l a b c⟩ else st
noncomputable def asC (bound : Int) (l : List Pt) (a b : Nat) (st : AS) (k : Nat) : AS := (List.range k).foldl (asStep bound l a b) st
noncomputable def asB (bound : Int) (l : List Pt) (a : Nat) (st : AS) (k : Nat) : AS := (List.range k).foldl (fun st b => asC bound l a b st l.length) st
noncomputable def asA (bound : Int) (l : List Pt) (k : Nat) : AS := (List.range k).foldl (fun st a => asB bound l a st l.length) ⟨none, 0⟩
theorem asC_succ (bound : Int) (l : List Pt) (a b : Nat) (st : AS) (k : Nat) : asC bound l a b st (k + 1) = asStep bound l a b (asC bound l a b st k) k := by unfold asC; rw [List.range_succ, List.foldl_append]; rfl
theorem asB_succ (bound : Int) (l : List Pt) (a : Nat) (st : AS) (k : Nat) : asB bound l a st (k + 1) = asC bound l a k (asB bound l a st k) l.length := by unfold asB; rw [List.range_succ, List.foldl_append]; rfl
theorem asA_succ (bound : Int) (l : List Pt) (k : Nat) : asA bound l (k + 1) = asB bound l k (asA bound l k) l.length := by unfold asA; rw [List.range_succ, List.foldl_append]; rfl
/-- What Assemble returns. -/
noncomputable def asmP (l : List Pt) (bound : Int) : TV × Int × Int :=
  if stockB l && inB bound 0 5000 then (if (asA bound l l.length).parts.isNone then (.nilSl, 0, 4) else (partsT (asA bound l l.length).parts, (asA bound l l.length).price, 0)) else (.nilSl, 0, 55)
/-- A part of a stock that is one. -/
theorem stock_at {l : List Pt} (h : stockB l = true) (hd : l.all decP = true) {i : Nat} {x : Pt} (hx : l[i]? = some x) :
    (0 ≤ x.k ∧ x.k ≤ 2) ∧ (0 ≤ x.p ∧ x.p ≤ 1000) ∧ (2 ≤ (errs x).length ∧ (errs x).length ≤ 12) ∧ tlAll (errs x) (firstN l) = true ∧ ∃ f, x.s = .sl ((errs x).flatMap Span.cs) (errs x).length f := by
  unfold stockB at h
  rw [Bool.and_eq_true] at h
  have h2 := List.all_eq_true.1 h.2 x (List.mem_of_getElem? hx)
  unfold ptB at h2
  simp only [Bool.and_eq_true, inB_iff, decide_eq_true_eq] at h2
  obtain ⟨h3, h4, h5, h6, h7⟩ := h2
  obtain ⟨hr, _⟩ := decP_row (List.all_eq_true.1 hd x (List.mem_of_getElem? hx))
  refine ⟨h3, h4, by omega, by unfold tlAll; rw [h6, h7]; simp, hr.ne (by omega)⟩
end Go.Os
namespace Go.Proofs.Ytjmkccckohcfkaa
open Go.RowKit Go.Pm Go.Oc Go.Oh Go.Os
set_option maxRecDepth 100000
set_option linter.unusedVariables false
set_option maxHeartbeats 8000000

noncomputable def spTa : Pm.Spec := { ((((spSa.one 83 sxIsStock).one 84 sxOf).one 86 sxFit)) with fz := fun _ => true }
@[go_sem] theorem spTa_p (f : FuncId) (xs : List TV) : spTa.p f xs = Pm.Spec.p ({ ((((spSa.one 83 sxIsStock).one 84 sxOf).one 86 sxFit)) with fz := fun _ => true }) f xs := rfl
@[go_sem] theorem spTa_h (f : FuncId) (ps : List PV) (hl : List PO) : spTa.h f ps hl = Pm.Spec.h ({ ((((spSa.one 83 sxIsStock).one 84 sxOf).one 86 sxFit)) with fz := fun _ => true }) f ps hl := rfl
@[go_sem] theorem spTa_fz (f : FuncId) : spTa.fz f = Pm.Spec.fz ({ ((((spSa.one 83 sxIsStock).one 84 sxOf).one 86 sxFit)) with fz := fun _ => true }) f := rfl
@[go_sem] theorem spTa_fr (f : FuncId) : spTa.fr f = Pm.Spec.fr ({ ((((spSa.one 83 sxIsStock).one 84 sxOf).one 86 sxFit)) with fz := fun _ => true }) f := rfl
@[go_sem] theorem spTa_mu (t : TypeId) : spTa.mu t = Pm.Spec.mu ({ ((((spSa.one 83 sxIsStock).one 84 sxOf).one 86 sxFit)) with fz := fun _ => true }) t := rfl
@[go_sem] theorem spTa_nf (t : TypeId) : spTa.nf t = Pm.Spec.nf ({ ((((spSa.one 83 sxIsStock).one 84 sxOf).one 86 sxFit)) with fz := fun _ => true }) t := rfl
theorem spTa_ok : SpecOk Try.prog spTa := ⟨(Spec.one_ok sxFit_ok (Spec.one_ok sxOf_ok (Spec.one_ok sxIsStock_ok spSa_ok))).1, (Spec.one_ok sxFit_ok (Spec.one_ok sxOf_ok (Spec.one_ok sxIsStock_ok spSa_ok))).2⟩
theorem sAssemble_c {l : List Pt} {s : TV} (hs : IsRow Pt.cs s l) (ll : l.length ≤ 9000000000000) (hd : l.all decP = true) (bound : Int) : PCalls Try.prog 30 [s, .int .i64 bound] (.tup [(asmP l bound).1, .int .i64 (asmP l bound).2.1, .int .i64 (asmP l bound).2.2]) := by
  have rs := rowP_is hs
  unfold rowL at rs
  simp only [unP_nil] at rs
  refine pcalls_by Try.mixes spTa_ok (fn := Try.f30) Try.func30 rfl (by kernel_rfl) (by show 2 ≤ _; decide) ?_
  unfold asmP
  cases hst : stockB l with
  | false => rcases hs with ⟨rfl, rfl⟩ | ⟨g, rfl⟩ <;> simp (decide := true) (maxSteps := 4000000) only [go_sem, Nat.reduceAdd, Nat.reduceSub, Nat.reduceMul, Nat.reduceDiv, Nat.reduceMod, Nat.reduceLT, Nat.reduceLeDiff, Nat.reduceEqDiff, Nat.reduceBEq, Nat.reduceBNe, Nat.reduceGT, Int.reduceAdd, Int.reduceSub, Int.reduceMul, Int.reduceNeg, Int.reduceLT, Int.reduceLE, Int.reduceEq, Int.reduceNe, Int.reduceBEq, Int.reduceBNe, Int.reduceToNat, Int.reduceGT, Int.reduceGE, ↓reduceIte, decide_true, decide_false, eq_self, Nat.mul_one, Nat.zero_mul, Nat.one_mul, Int.le_refl, Nat.le_refl, Int.cast_ofNat_Int, Try.f30, unP_eq, unP_nil, ll, hd, hst, Bool.false_and]
  | true =>
    have h3 : 3 ≤ l.length ∧ l.length ≤ 12 := by
      unfold stockB at hst
      rw [Bool.and_eq_true, inB_iff] at hst
      omega
    obtain ⟨g, rfl⟩ := hs.ne (by omega)
    cases hbd : inB bound 0 5000 with
    | false => simp (decide := true) (maxSteps := 4000000) only [go_sem, Nat.reduceAdd, Nat.reduceSub, Nat.reduceMul, Nat.reduceDiv, Nat.reduceMod, Nat.reduceLT, Nat.reduceLeDiff, Nat.reduceEqDiff, Nat.reduceBEq, Nat.reduceBNe, Nat.reduceGT, Int.reduceAdd, Int.reduceSub, Int.reduceMul, Int.reduceNeg, Int.reduceLT, Int.reduceLE, Int.reduceEq, Int.reduceNe, Int.reduceBEq, Int.reduceBNe, Int.reduceToNat, Int.reduceGT, Int.reduceGE, ↓reduceIte, decide_true, decide_false, eq_self, Nat.mul_one, Nat.zero_mul, Nat.one_mul, Int.le_refl, Nat.le_refl, Int.cast_ofNat_Int, Try.f30, unP_eq, ll, hd, hst, hbd, Bool.and_false]
    | true =>
      have hb := inB_iff.1 hbd
      simp (decide := true) (maxSteps := 4000000) only [go_sem, Nat.reduceAdd, Nat.reduceSub, Nat.reduceMul, Nat.reduceDiv, Nat.reduceMod, Nat.reduceLT, Nat.reduceLeDiff, Nat.reduceEqDiff, Nat.reduceBEq, Nat.reduceBNe, Nat.reduceGT, Int.reduceAdd, Int.reduceSub, Int.reduceMul, Int.reduceNeg, Int.reduceLT, Int.reduceLE, Int.reduceEq, Int.reduceNe, Int.reduceBEq, Int.reduceBNe, Int.reduceToNat, Int.reduceGT, Int.reduceGE, ↓reduceIte, decide_true, decide_false, eq_self, Nat.mul_one, Nat.zero_mul, Nat.one_mul, Int.le_refl, Nat.le_refl, Int.cast_ofNat_Int, Try.f30, unP_eq, ll, hd, hst, hbd, Bool.and_self]
      refine pwpC_loopU (A := { k : Nat // k ≤ l.length }) [1, 2, 7, 23] (fun k => [(24, .t (.int .i64 k.1)), (4, .t (partsT (asA bound l k.1).parts)), (5, .t (.int .i64 (asA bound l k.1).price))]) (fun _ => []) (fun k => l.length - k.1) ⟨0, by omega⟩ (by decide) (fun _ => by rfl) ?_ fun Q1 hQ1 ⟨a, ha⟩ I1 hI1 => ?_
      · simp (decide := true) (maxSteps := 4000000) only [go_sem, Nat.reduceAdd, Nat.reduceSub, Nat.reduceMul, Nat.reduceDiv, Nat.reduceMod, Nat.reduceLT, Nat.reduceLeDiff, Nat.reduceEqDiff, Nat.reduceBEq, Nat.reduceBNe, Nat.reduceGT, Int.reduceAdd, Int.reduceSub, Int.reduceMul, Int.reduceNeg, Int.reduceLT, Int.reduceLE, Int.reduceEq, Int.reduceNe, Int.reduceBEq, Int.reduceBNe, Int.reduceToNat, Int.reduceGT, Int.reduceGE, ↓reduceIte, decide_true, decide_false, eq_self, Nat.mul_one, Nat.zero_mul, Nat.one_mul, Int.le_refl, Nat.le_refl, Int.cast_ofNat_Int, asA, List.range_zero, List.foldl_nil, partsT]
      · by_cases hlt : (a : Int) < l.length
        · have hca : IntKind.i64.wrap (a + 1) = ((a + 1 : Nat) : Int) := by rw [wrap_in (by omega) (by omega)]; omega
          have hsa := asA_succ bound l a
          obtain ⟨SA, hSA⟩ : ∃ SA, asA bound l a = SA := ⟨_, rfl⟩
          rw [hSA] at hsa
          obtain ⟨pa, hpa⟩ := get_lt (l := l) (k := a) (by omega)
          simp (decide := true) (maxSteps := 4000000) only [go_sem, Nat.reduceAdd, Nat.reduceSub, Nat.reduceMul, Nat.reduceDiv, Nat.reduceMod, Nat.reduceLT, Nat.reduceLeDiff, Nat.reduceEqDiff, Nat.reduceBEq, Nat.reduceBNe, Nat.reduceGT, Int.reduceAdd, Int.reduceSub, Int.reduceMul, Int.reduceNeg, Int.reduceLT, Int.reduceLE, Int.reduceEq, Int.reduceNe, Int.reduceBEq, Int.reduceBNe, Int.reduceToNat, Int.reduceGT, Int.reduceGE, ↓reduceIte, decide_true, decide_false, eq_self, Nat.mul_one, Nat.zero_mul, Nat.one_mul, Int.le_refl, Nat.le_refl, Int.cast_ofNat_Int, hlt, hSA]
          refine pwpC_loopU (A := { k : Nat // k ≤ l.length }) [1, 2, 7, 23, 24, 8, 28] (fun k => [(29, .t (.int .i64 k.1)), (4, .t (partsT (asB bound l a SA k.1).parts)), (5, .t (.int .i64 (asB bound l a SA k.1).price))]) (fun _ => []) (fun k => l.length - k.1) ⟨0, by omega⟩ (by decide) (fun _ => by rfl) ?_ fun Q2 hQ2 ⟨b, hb'⟩ I2 hI2 => ?_
          · simp (decide := true) (maxSteps := 4000000) only [go_sem, Nat.reduceAdd, Nat.reduceSub, Nat.reduceMul, Nat.reduceDiv, Nat.reduceMod, Nat.reduceLT, Nat.reduceLeDiff, Nat.reduceEqDiff, Nat.reduceBEq, Nat.reduceBNe, Nat.reduceGT, Int.reduceAdd, Int.reduceSub, Int.reduceMul, Int.reduceNeg, Int.reduceLT, Int.reduceLE, Int.reduceEq, Int.reduceNe, Int.reduceBEq, Int.reduceBNe, Int.reduceToNat, Int.reduceGT, Int.reduceGE, ↓reduceIte, decide_true, decide_false, eq_self, Nat.mul_one, Nat.zero_mul, Nat.one_mul, Int.le_refl, Nat.le_refl, Int.cast_ofNat_Int, asB, List.range_zero, List.foldl_nil]
          · by_cases hlt2 : (b : Int) < l.length
            · have hcb : IntKind.i64.wrap (b + 1) = ((b + 1 : Nat) : Int) := by rw [wrap_in (by omega) (by omega)]; omega
              have hsb := asB_succ bound l a SA b
              obtain ⟨SB, hSB⟩ : ∃ SB, asB bound l a SA b = SB := ⟨_, rfl⟩
              rw [hSB] at hsb
              obtain ⟨pb, hpb⟩ := get_lt (l := l) (k := b) (by omega)
              simp (decide := true) (maxSteps := 4000000) only [go_sem, Nat.reduceAdd, Nat.reduceSub, Nat.reduceMul, Nat.reduceDiv, Nat.reduceMod, Nat.reduceLT, Nat.reduceLeDiff, Nat.reduceEqDiff, Nat.reduceBEq, Nat.reduceBNe, Nat.reduceGT, Int.reduceAdd, Int.reduceSub, Int.reduceMul, Int.reduceNeg, Int.reduceLT, Int.reduceLE, Int.reduceEq, Int.reduceNe, Int.reduceBEq, Int.reduceBNe, Int.reduceToNat, Int.reduceGT, Int.reduceGE, ↓reduceIte, decide_true, decide_false, eq_self, Nat.mul_one, Nat.zero_mul, Nat.one_mul, Int.le_refl, Nat.le_refl, Int.cast_ofNat_Int, hlt2, hSB]
              refine pwpC_loopU (A := { k : Nat // k ≤ l.length }) [1, 2, 7, 23, 24, 8, 28, 29, 9, 33] (fun k => [(34, .t (.int .i64 k.1)), (4, .t (partsT (asC bound l a b SB k.1).parts)), (5, .t (.int .i64 (asC bound l a b SB k.1).price))]) (fun _ => []) (fun k => l.length - k.1) ⟨0, by omega⟩ (by decide) (fun _ => by rfl) ?_ fun Q3 hQ3 ⟨c, hc'⟩ I3 hI3 => ?_
              · simp (decide := true) (maxSteps := 4000000) only [go_sem, Nat.reduceAdd, Nat.reduceSub, Nat.reduceMul, Nat.reduceDiv, Nat.reduceMod, Nat.reduceLT, Nat.reduceLeDiff, Nat.reduceEqDiff, Nat.reduceBEq, Nat.reduceBNe, Nat.reduceGT, Int.reduceAdd, Int.reduceSub, Int.reduceMul, Int.reduceNeg, Int.reduceLT, Int.reduceLE, Int.reduceEq, Int.reduceNe, Int.reduceBEq, Int.reduceBNe, Int.reduceToNat, Int.reduceGT, Int.reduceGE, ↓reduceIte, decide_true, decide_false, eq_self, Nat.mul_one, Nat.zero_mul, Nat.one_mul, Int.le_refl, Nat.le_refl, Int.cast_ofNat_Int, asC, List.range_zero, List.foldl_nil]
              · by_cases hlt3 : (c : Int) < l.length
                · have hcc : IntKind.i64.wrap (c + 1) = ((c + 1 : Nat) : Int) := by rw [wrap_in (by omega) (by omega)]; omega
                  have hsc := asC_succ bound l a b SB c
                  obtain ⟨pc, hpc⟩ := get_lt (l := l) (k := c) (by omega)
                  have da := flat_at Pt.cs (n := 3) (fun _ => rfl) hpa
                  have db := flat_at Pt.cs (n := 3) (fun _ => rfl) hpb
                  have dc := flat_at Pt.cs (n := 3) (fun _ => rfl) hpc
                  obtain ⟨ga1, ga2, ga3, ga4, fa, ga5⟩ := stock_at hst hd hpa
                  obtain ⟨gb1, gb2, gb3, gb4, fb, gb5⟩ := stock_at hst hd hpb
                  obtain ⟨gc1, gc2, gc3, gc4, fc, gc5⟩ := stock_at hst hd hpc
                  have hcost : cost3 l a b c = pa.p + pb.p + pc.p := by unfold cost3 prc; rw [hpa, hpb, hpc]
                  have hfit : fit3 bound l a b c = fitB bound (pa.k == 0) (pb.k == 1) (pc.k == 2) (errs pa) (errs pb) (errs pc) := by unfold fit3 knd ers; rw [hpa, hpb, hpc]
                  have ea : (errs pa).length = firstN l := by unfold tlAll at ga4; simp at ga4; exact ga4.1
                  have eb : (errs pb).length = firstN l := by unfold tlAll at gb4; simp at gb4; exact gb4.1
                  have ec : (errs pc).length = firstN l := by unfold tlAll at gc4; simp at gc4; exact gc4.1
                  obtain ⟨F, hF⟩ : ∃ F, firstN l = F := ⟨_, rfl⟩
                  rw [hF] at ga4 gb4 gc4 ea eb ec
                  have w1 : IntKind.i64.wrap (pa.p + pb.p) = pa.p + pb.p := wrap_in (by omega) (by omega)
                  have w2 : IntKind.i64.wrap (pa.p + pb.p + pc.p) = cost3 l a b c := by rw [hcost]; exact wrap_in (by omega) (by omega)
                  have hF12 : 1 ≤ F ∧ F ≤ 12 := by omega
                  obtain ⟨CO, hCO⟩ : ∃ CO, cost3 l a b c = CO := ⟨_, rfl⟩
                  obtain ⟨FI, hFI⟩ : ∃ FI, fit3 bound l a b c = FI := ⟨_, rfl⟩
                  rw [hFI] at hfit
                  rw [hCO] at w2
                  obtain ⟨ST, hST⟩ : ∃ ST, asC bound l a b SB c = ST := ⟨_, rfl⟩
                  rw [hST] at hsc
                  unfold asStep at hsc
                  rw [hCO, hFI] at hsc
                  obtain ⟨P, pr⟩ := ST
                  cases P with
                  | none =>
                    simp (decide := true) (maxSteps := 4000000) only [go_sem, Nat.reduceAdd, Nat.reduceSub, Nat.reduceMul, Nat.reduceDiv, Nat.reduceMod, Nat.reduceLT, Nat.reduceLeDiff, Nat.reduceEqDiff, Nat.reduceBEq, Nat.reduceBNe, Nat.reduceGT, Int.reduceAdd, Int.reduceSub, Int.reduceMul, Int.reduceNeg, Int.reduceLT, Int.reduceLE, Int.reduceEq, Int.reduceNe, Int.reduceBEq, Int.reduceBNe, Int.reduceToNat, Int.reduceGT, Int.reduceGE, ↓reduceIte, decide_true, decide_false, eq_self, Nat.mul_one, Nat.zero_mul, Nat.one_mul, Int.le_refl, Nat.le_refl, Int.cast_ofNat_Int, hlt, hlt2, hlt3, hST, partsT, hpa, hpb, hpc, unP_eq, unS_eq, ga5, gb5, gc5, ea, eb, ec, da, db, dc, Pt.cs, Int.toNat_natCast, w1, w2, hb, hF12, ga4, gb4, gc4, ← hfit]
                    cases FI with
                    | false =>
                      simp (decide := true) (maxSteps := 4000000) only [go_sem, Nat.reduceAdd, Nat.reduceSub, Nat.reduceMul, Nat.reduceDiv, Nat.reduceMod, Nat.reduceLT, Nat.reduceLeDiff, Nat.reduceEqDiff, Nat.reduceBEq, Nat.reduceBNe, Nat.reduceGT, Int.reduceAdd, Int.reduceSub, Int.reduceMul, Int.reduceNeg, Int.reduceLT, Int.reduceLE, Int.reduceEq, Int.reduceNe, Int.reduceBEq, Int.reduceBNe, Int.reduceToNat, Int.reduceGT, Int.reduceGE, ↓reduceIte, decide_true, decide_false, eq_self, Nat.mul_one, Nat.zero_mul, Nat.one_mul, Int.le_refl, Nat.le_refl, Int.cast_ofNat_Int]
                      refine hI3 _ ⟨c + 1, by omega⟩ (by simp only; omega) ?_
                      simp (decide := true) (maxSteps := 4000000) only [go_sem, Nat.reduceAdd, Nat.reduceSub, Nat.reduceMul, Nat.reduceDiv, Nat.reduceMod, Nat.reduceLT, Nat.reduceLeDiff, Nat.reduceEqDiff, Nat.reduceBEq, Nat.reduceBNe, Nat.reduceGT, Int.reduceAdd, Int.reduceSub, Int.reduceMul, Int.reduceNeg, Int.reduceLT, Int.reduceLE, Int.reduceEq, Int.reduceNe, Int.reduceBEq, Int.reduceBNe, Int.reduceToNat, Int.reduceGT, Int.reduceGE, ↓reduceIte, decide_true, decide_false, eq_self, Nat.mul_one, Nat.zero_mul, Nat.one_mul, Int.le_refl, Nat.le_refl, Int.cast_ofNat_Int, hcc, hsc, Option.isNone_none, Bool.true_or, Bool.true_and, Bool.and_false, partsT]
                    | true =>
                      simp (decide := true) (maxSteps := 4000000) only [go_sem, Nat.reduceAdd, Nat.reduceSub, Nat.reduceMul, Nat.reduceDiv, Nat.reduceMod, Nat.reduceLT, Nat.reduceLeDiff, Nat.reduceEqDiff, Nat.reduceBEq, Nat.reduceBNe, Nat.reduceGT, Int.reduceAdd, Int.reduceSub, Int.reduceMul, Int.reduceNeg, Int.reduceLT, Int.reduceLE, Int.reduceEq, Int.reduceNe, Int.reduceBEq, Int.reduceBNe, Int.reduceToNat, Int.reduceGT, Int.reduceGE, ↓reduceIte, decide_true, decide_false, eq_self, Nat.mul_one, Nat.zero_mul, Nat.one_mul, Int.le_refl, Nat.le_refl, Int.cast_ofNat_Int]
                      refine hI3 _ ⟨c + 1, by omega⟩ (by simp only; omega) ?_
                      simp (decide := true) (maxSteps := 4000000) only [go_sem, Nat.reduceAdd, Nat.reduceSub, Nat.reduceMul, Nat.reduceDiv, Nat.reduceMod, Nat.reduceLT, Nat.reduceLeDiff, Nat.reduceEqDiff, Nat.reduceBEq, Nat.reduceBNe, Nat.reduceGT, Int.reduceAdd, Int.reduceSub, Int.reduceMul, Int.reduceNeg, Int.reduceLT, Int.reduceLE, Int.reduceEq, Int.reduceNe, Int.reduceBEq, Int.reduceBNe, Int.reduceToNat, Int.reduceGT, Int.reduceGE, ↓reduceIte, decide_true, decide_false, eq_self, Nat.mul_one, Nat.zero_mul, Nat.one_mul, Int.le_refl, Nat.le_refl, Int.cast_ofNat_Int, hcc, hsc, Option.isNone_none, Bool.true_or, Bool.true_and, Bool.and_true, partsT]
                  | some P =>
                    obtain ⟨P1, P2, P3⟩ := P
                    simp (decide := true) (maxSteps := 4000000) only [go_sem, Nat.reduceAdd, Nat.reduceSub, Nat.reduceMul, Nat.reduceDiv, Nat.reduceMod, Nat.reduceLT, Nat.reduceLeDiff, Nat.reduceEqDiff, Nat.reduceBEq, Nat.reduceBNe, Nat.reduceGT, Int.reduceAdd, Int.reduceSub, Int.reduceMul, Int.reduceNeg, Int.reduceLT, Int.reduceLE, Int.reduceEq, Int.reduceNe, Int.reduceBEq, Int.reduceBNe, Int.reduceToNat, Int.reduceGT, Int.reduceGE, ↓reduceIte, decide_true, decide_false, eq_self, Nat.mul_one, Nat.zero_mul, Nat.one_mul, Int.le_refl, Nat.le_refl, Int.cast_ofNat_Int, hlt, hlt2, hlt3, hST, partsT, hpa, hpb, hpc, unP_eq, unS_eq, ga5, gb5, gc5, ea, eb, ec, da, db, dc, Pt.cs, Int.toNat_natCast, w1, w2, hb, hF12, ga4, gb4, gc4, ← hfit]
                    by_cases hlt4 : CO < pr
                    · cases FI with
                      | false =>
                        simp (decide := true) (maxSteps := 4000000) only [go_sem, Nat.reduceAdd, Nat.reduceSub, Nat.reduceMul, Nat.reduceDiv, Nat.reduceMod, Nat.reduceLT, Nat.reduceLeDiff, Nat.reduceEqDiff, Nat.reduceBEq, Nat.reduceBNe, Nat.reduceGT, Int.reduceAdd, Int.reduceSub, Int.reduceMul, Int.reduceNeg, Int.reduceLT, Int.reduceLE, Int.reduceEq, Int.reduceNe, Int.reduceBEq, Int.reduceBNe, Int.reduceToNat, Int.reduceGT, Int.reduceGE, ↓reduceIte, decide_true, decide_false, eq_self, Nat.mul_one, Nat.zero_mul, Nat.one_mul, Int.le_refl, Nat.le_refl, Int.cast_ofNat_Int, hlt4, Bool.and_false]
                        refine hI3 _ ⟨c + 1, by omega⟩ (by simp only; omega) ?_
                        simp (decide := true) (maxSteps := 4000000) only [go_sem, Nat.reduceAdd, Nat.reduceSub, Nat.reduceMul, Nat.reduceDiv, Nat.reduceMod, Nat.reduceLT, Nat.reduceLeDiff, Nat.reduceEqDiff, Nat.reduceBEq, Nat.reduceBNe, Nat.reduceGT, Int.reduceAdd, Int.reduceSub, Int.reduceMul, Int.reduceNeg, Int.reduceLT, Int.reduceLE, Int.reduceEq, Int.reduceNe, Int.reduceBEq, Int.reduceBNe, Int.reduceToNat, Int.reduceGT, Int.reduceGE, ↓reduceIte, decide_true, decide_false, eq_self, Nat.mul_one, Nat.zero_mul, Nat.one_mul, Int.le_refl, Nat.le_refl, Int.cast_ofNat_Int, hcc, hsc, Option.isNone_some, Bool.false_or, Bool.and_false, partsT]
                      | true =>
                        simp (decide := true) (maxSteps := 4000000) only [go_sem, Nat.reduceAdd, Nat.reduceSub, Nat.reduceMul, Nat.reduceDiv, Nat.reduceMod, Nat.reduceLT, Nat.reduceLeDiff, Nat.reduceEqDiff, Nat.reduceBEq, Nat.reduceBNe, Nat.reduceGT, Int.reduceAdd, Int.reduceSub, Int.reduceMul, Int.reduceNeg, Int.reduceLT, Int.reduceLE, Int.reduceEq, Int.reduceNe, Int.reduceBEq, Int.reduceBNe, Int.reduceToNat, Int.reduceGT, Int.reduceGE, ↓reduceIte, decide_true, decide_false, eq_self, Nat.mul_one, Nat.zero_mul, Nat.one_mul, Int.le_refl, Nat.le_refl, Int.cast_ofNat_Int, hlt4, Bool.and_true]
                        refine hI3 _ ⟨c + 1, by omega⟩ (by simp only; omega) ?_
                        simp (decide := true) (maxSteps := 4000000) only [go_sem, Nat.reduceAdd, Nat.reduceSub, Nat.reduceMul, Nat.reduceDiv, Nat.reduceMod, Nat.reduceLT, Nat.reduceLeDiff, Nat.reduceEqDiff, Nat.reduceBEq, Nat.reduceBNe, Nat.reduceGT, Int.reduceAdd, Int.reduceSub, Int.reduceMul, Int.reduceNeg, Int.reduceLT, Int.reduceLE, Int.reduceEq, Int.reduceNe, Int.reduceBEq, Int.reduceBNe, Int.reduceToNat, Int.reduceGT, Int.reduceGE, ↓reduceIte, decide_true, decide_false, eq_self, Nat.mul_one, Nat.zero_mul, Nat.one_mul, Int.le_refl, Nat.le_refl, Int.cast_ofNat_Int, hcc, hsc, hlt4, Option.isNone_some, Bool.false_or, Bool.and_true, partsT]
                    · simp (decide := true) (maxSteps := 4000000) only [go_sem, Nat.reduceAdd, Nat.reduceSub, Nat.reduceMul, Nat.reduceDiv, Nat.reduceMod, Nat.reduceLT, Nat.reduceLeDiff, Nat.reduceEqDiff, Nat.reduceBEq, Nat.reduceBNe, Nat.reduceGT, Int.reduceAdd, Int.reduceSub, Int.reduceMul, Int.reduceNeg, Int.reduceLT, Int.reduceLE, Int.reduceEq, Int.reduceNe, Int.reduceBEq, Int.reduceBNe, Int.reduceToNat, Int.reduceGT, Int.reduceGE, ↓reduceIte, decide_true, decide_false, eq_self, Nat.mul_one, Nat.zero_mul, Nat.one_mul, Int.le_refl, Nat.le_refl, Int.cast_ofNat_Int, hlt4, Bool.false_and]
                      refine hI3 _ ⟨c + 1, by omega⟩ (by simp only; omega) ?_
                      simp (decide := true) (maxSteps := 4000000) only [go_sem, Nat.reduceAdd, Nat.reduceSub, Nat.reduceMul, Nat.reduceDiv, Nat.reduceMod, Nat.reduceLT, Nat.reduceLeDiff, Nat.reduceEqDiff, Nat.reduceBEq, Nat.reduceBNe, Nat.reduceGT, Int.reduceAdd, Int.reduceSub, Int.reduceMul, Int.reduceNeg, Int.reduceLT, Int.reduceLE, Int.reduceEq, Int.reduceNe, Int.reduceBEq, Int.reduceBNe, Int.reduceToNat, Int.reduceGT, Int.reduceGE, ↓reduceIte, decide_true, decide_false, eq_self, Nat.mul_one, Nat.zero_mul, Nat.one_mul, Int.le_refl, Nat.le_refl, Int.cast_ofNat_Int, hcc, hsc, hlt4, Option.isNone_some, Bool.false_or, Bool.false_and, partsT]
                · have hke : c = l.length := by omega
                  subst hke
                  simp (decide := true) (maxSteps := 4000000) only [go_sem, Nat.reduceAdd, Nat.reduceSub, Nat.reduceMul, Nat.reduceDiv, Nat.reduceMod, Nat.reduceLT, Nat.reduceLeDiff, Nat.reduceEqDiff, Nat.reduceBEq, Nat.reduceBNe, Nat.reduceGT, Int.reduceAdd, Int.reduceSub, Int.reduceMul, Int.reduceNeg, Int.reduceLT, Int.reduceLE, Int.reduceEq, Int.reduceNe, Int.reduceBEq, Int.reduceBNe, Int.reduceToNat, Int.reduceGT, Int.reduceGE, ↓reduceIte, decide_true, decide_false, eq_self, Nat.mul_one, Nat.zero_mul, Nat.one_mul, Int.le_refl, Nat.le_refl, Int.cast_ofNat_Int, hlt3]
                  refine hQ3 _ _ ?_
                  simp (decide := true) (maxSteps := 4000000) only [go_sem, Nat.reduceAdd, Nat.reduceSub, Nat.reduceMul, Nat.reduceDiv, Nat.reduceMod, Nat.reduceLT, Nat.reduceLeDiff, Nat.reduceEqDiff, Nat.reduceBEq, Nat.reduceBNe, Nat.reduceGT, Int.reduceAdd, Int.reduceSub, Int.reduceMul, Int.reduceNeg, Int.reduceLT, Int.reduceLE, Int.reduceEq, Int.reduceNe, Int.reduceBEq, Int.reduceBNe, Int.reduceToNat, Int.reduceGT, Int.reduceGE, ↓reduceIte, decide_true, decide_false, eq_self, Nat.mul_one, Nat.zero_mul, Nat.one_mul, Int.le_refl, Nat.le_refl, Int.cast_ofNat_Int]
                  refine hI2 _ ⟨b + 1, by omega⟩ (by simp only; omega) ?_
                  simp (decide := true) (maxSteps := 4000000) only [go_sem, Nat.reduceAdd, Nat.reduceSub, Nat.reduceMul, Nat.reduceDiv, Nat.reduceMod, Nat.reduceLT, Nat.reduceLeDiff, Nat.reduceEqDiff, Nat.reduceBEq, Nat.reduceBNe, Nat.reduceGT, Int.reduceAdd, Int.reduceSub, Int.reduceMul, Int.reduceNeg, Int.reduceLT, Int.reduceLE, Int.reduceEq, Int.reduceNe, Int.reduceBEq, Int.reduceBNe, Int.reduceToNat, Int.reduceGT, Int.reduceGE, ↓reduceIte, decide_true, decide_false, eq_self, Nat.mul_one, Nat.zero_mul, Nat.one_mul, Int.le_refl, Nat.le_refl, Int.cast_ofNat_Int, hcb, hsb]
            · have hke : b = l.length := by omega
              subst hke
              simp (decide := true) (maxSteps := 4000000) only [go_sem, Nat.reduceAdd, Nat.reduceSub, Nat.reduceMul, Nat.reduceDiv, Nat.reduceMod, Nat.reduceLT, Nat.reduceLeDiff, Nat.reduceEqDiff, Nat.reduceBEq, Nat.reduceBNe, Nat.reduceGT, Int.reduceAdd, Int.reduceSub, Int.reduceMul, Int.reduceNeg, Int.reduceLT, Int.reduceLE, Int.reduceEq, Int.reduceNe, Int.reduceBEq, Int.reduceBNe, Int.reduceToNat, Int.reduceGT, Int.reduceGE, ↓reduceIte, decide_true, decide_false, eq_self, Nat.mul_one, Nat.zero_mul, Nat.one_mul, Int.le_refl, Nat.le_refl, Int.cast_ofNat_Int, hlt2]
              refine hQ2 _ _ ?_
              simp (decide := true) (maxSteps := 4000000) only [go_sem, Nat.reduceAdd, Nat.reduceSub, Nat.reduceMul, Nat.reduceDiv, Nat.reduceMod, Nat.reduceLT, Nat.reduceLeDiff, Nat.reduceEqDiff, Nat.reduceBEq, Nat.reduceBNe, Nat.reduceGT, Int.reduceAdd, Int.reduceSub, Int.reduceMul, Int.reduceNeg, Int.reduceLT, Int.reduceLE, Int.reduceEq, Int.reduceNe, Int.reduceBEq, Int.reduceBNe, Int.reduceToNat, Int.reduceGT, Int.reduceGE, ↓reduceIte, decide_true, decide_false, eq_self, Nat.mul_one, Nat.zero_mul, Nat.one_mul, Int.le_refl, Nat.le_refl, Int.cast_ofNat_Int]
              refine hI1 _ ⟨a + 1, by omega⟩ (by simp only; omega) ?_
              simp (decide := true) (maxSteps := 4000000) only [go_sem, Nat.reduceAdd, Nat.reduceSub, Nat.reduceMul, Nat.reduceDiv, Nat.reduceMod, Nat.reduceLT, Nat.reduceLeDiff, Nat.reduceEqDiff, Nat.reduceBEq, Nat.reduceBNe, Nat.reduceGT, Int.reduceAdd, Int.reduceSub, Int.reduceMul, Int.reduceNeg, Int.reduceLT, Int.reduceLE, Int.reduceEq, Int.reduceNe, Int.reduceBEq, Int.reduceBNe, Int.reduceToNat, Int.reduceGT, Int.reduceGE, ↓reduceIte, decide_true, decide_false, eq_self, Nat.mul_one, Nat.zero_mul, Nat.one_mul, Int.le_refl, Nat.le_refl, Int.cast_ofNat_Int, hca, hsa]
        · have hke : a = l.length := by omega
          subst hke
          simp (decide := true) (maxSteps := 4000000) only [go_sem, Nat.reduceAdd, Nat.reduceSub, Nat.reduceMul, Nat.reduceDiv, Nat.reduceMod, Nat.reduceLT, Nat.reduceLeDiff, Nat.reduceEqDiff, Nat.reduceBEq, Nat.reduceBNe, Nat.reduceGT, Int.reduceAdd, Int.reduceSub, Int.reduceMul, Int.reduceNeg, Int.reduceLT, Int.reduceLE, Int.reduceEq, Int.reduceNe, Int.reduceBEq, Int.reduceBNe, Int.reduceToNat, Int.reduceGT, Int.reduceGE, ↓reduceIte, decide_true, decide_false, eq_self, Nat.mul_one, Nat.zero_mul, Nat.one_mul, Int.le_refl, Nat.le_refl, Int.cast_ofNat_Int, hlt]
          refine hQ1 _ _ ?_
          obtain ⟨ST, hST⟩ : ∃ ST, asA bound l l.length = ST := ⟨_, rfl⟩
          rw [hST]
          obtain ⟨P, pr⟩ := ST
          cases P with
          | none => simp (decide := true) (maxSteps := 4000000) only [go_sem, Nat.reduceAdd, Nat.reduceSub, Nat.reduceMul, Nat.reduceDiv, Nat.reduceMod, Nat.reduceLT, Nat.reduceLeDiff, Nat.reduceEqDiff, Nat.reduceBEq, Nat.reduceBNe, Nat.reduceGT, Int.reduceAdd, Int.reduceSub, Int.reduceMul, Int.reduceNeg, Int.reduceLT, Int.reduceLE, Int.reduceEq, Int.reduceNe, Int.reduceBEq, Int.reduceBNe, Int.reduceToNat, Int.reduceGT, Int.reduceGE, ↓reduceIte, decide_true, decide_false, eq_self, Nat.mul_one, Nat.zero_mul, Nat.one_mul, Int.le_refl, Nat.le_refl, Int.cast_ofNat_Int, partsT, Option.isNone_none]
          | some P =>
            obtain ⟨a, b, c⟩ := P
            simp (decide := true) (maxSteps := 4000000) only [go_sem, Nat.reduceAdd, Nat.reduceSub, Nat.reduceMul, Nat.reduceDiv, Nat.reduceMod, Nat.reduceLT, Nat.reduceLeDiff, Nat.reduceEqDiff, Nat.reduceBEq, Nat.reduceBNe, Nat.reduceGT, Int.reduceAdd, Int.reduceSub, Int.reduceMul, Int.reduceNeg, Int.reduceLT, Int.reduceLE, Int.reduceEq, Int.reduceNe, Int.reduceBEq, Int.reduceBNe, Int.reduceToNat, Int.reduceGT, Int.reduceGE, ↓reduceIte, decide_true, decide_false, eq_self, Nat.mul_one, Nat.zero_mul, Nat.one_mul, Int.le_refl, Nat.le_refl, Int.cast_ofNat_Int, partsT, Option.isNone_some]
end Go.Proofs.Ytjmkccckohcfkaa

/- Part Oa. -/
namespace Go.Os
open Go Go.Pm Go.Oc Go.Oh
set_option maxRecDepth 100000
/-- The errors of a part, read by a program. -/
def unSc : List TV → Option (List Span)
  | [] => some []
  | .int .i64 a :: .int .i64 b :: r => (unSc r).map (⟨a, b⟩ :: ·)
  | _ => none
theorem unSc_eq : ∀ l : List Span, unSc (l.flatMap Span.cs) = some l
  | [] => rfl
  | p :: l => by
    rw [List.flatMap_cons]
    show (unSc (l.flatMap Span.cs)).map _ = _
    rw [unSc_eq l]; rfl
theorem unSc_some : ∀ {cs : List TV} {l : List Span}, unSc cs = some l → cs = l.flatMap Span.cs := by
  intro cs
  fun_induction unSc cs with
  | case1 => intro l h; cases h; rfl
  | case2 a b r ih =>
    intro l h
    cases hr : unSc r with
    | none => rw [hr] at h; cases h
    | some m =>
      rw [hr] at h
      cases h
      rw [List.flatMap_cons, ← ih hr]; rfl
  | case3 => intro l h; cases h
theorem unS_c (cs : List TV) : unS cs = unSc cs := by
  cases h : unSc cs with
  | some l => rw [unSc_some h]; exact unS_eq l
  | none =>
    cases h' : unS cs with
    | none => rfl
    | some l => rw [unS_some h', unSc_eq] at h; cases h
def errsC (x : Pt) : List Span := match x.s with
  | .sl cs n _ => match unSc cs with
    | some l => if n = l.length then l else []
    | none => []
  | _ => []
theorem errs_c : errs = errsC := by
  funext x
  unfold errs errsC rowL
  cases x.s <;> simp only [unS_c] <;> try rfl
  rename_i cs n f
  cases unSc cs with
  | none => rfl
  | some l => by_cases h : n = l.length <;> simp [h]
def ptG (er : Pt → List Span) (n : Nat) (x : Pt) : Bool := inB x.k 0 2 && (inB x.p 0 1000 && (inB (er x).length 2 12 && (decide ((er x).length = n) && (er x).all (spannedB · (-1000) 1000))))
def firstG (er : Pt → List Span) (l : List Pt) : Nat := match l[0]? with | some x => (er x).length | none => 0
def stockG (er : Pt → List Span) (l : List Pt) : Bool := inB l.length 3 12 && l.all (ptG er (firstG er l))
def prcG (l : List Pt) (i : Nat) : Int := match l[i]? with | some x => x.p | none => 0
def kndG (l : List Pt) (i : Nat) : Int := match l[i]? with | some x => x.k | none => 0
def ersG (er : Pt → List Span) (l : List Pt) (i : Nat) : List Span := match l[i]? with | some x => er x | none => []
def costG (l : List Pt) (a b c : Nat) : Int := prcG l a + prcG l b + prcG l c
def fitG (er : Pt → List Span) (bound : Int) (l : List Pt) (a b c : Nat) : Bool := fitB bound (kndG l a == 0) (kndG l b == 1) (kndG l c == 2) (ersG er l a) (ersG er l b) (ersG er l c)
def stepG (er : Pt → List Span) (bound : Int) (l : List Pt) (a b : Nat) (st : AS) (c : Nat) : AS :=
  if (st.parts.isNone || decide (costG l a b c < st.price)) && fitG er bound l a b c then ⟨some (a, b, c), costG l a b c⟩ else st
def asG (er : Pt → List Span) (bound : Int) (l : List Pt) : AS := (List.range l.length).foldl (fun st a => (List.range l.length).foldl (fun st b => (List.range l.length).foldl (stepG er bound l a b) st) st) ⟨none, 0⟩
theorem asA_G (bound : Int) (l : List Pt) : asA bound l l.length = asG errs bound l := rfl
def asmN (er : Pt → List Span) (l : List Pt) (bound : Int) : Option (Nat × Nat × Nat) × Int × Int :=
  if stockG er l && inB bound 0 5000 then (if (asG er bound l).parts.isNone then (none, 0, 4) else ((asG er bound l).parts, (asG er bound l).price, 0)) else (none, 0, 55)
theorem asmP_N (l : List Pt) (bound : Int) : asmP l bound = (partsT (asmN errsC l bound).1, (asmN errsC l bound).2.1, (asmN errsC l bound).2.2) := by
  rw [← errs_c]
  unfold asmP asmN
  rw [asA_G, show stockB l = stockG errs l from rfl]
  split
  · split <;> rfl
  · rfl
def ownX : Sx := ⟨36000, [⟨0, 0⟩, ⟨-10, 10⟩, ⟨20, 40⟩], ⟨-30, -20⟩, 5, [⟨0, 6⟩, ⟨-4, 4⟩]⟩
def sunsX : List Sun := [⟨1915, 1865⟩, ⟨1912, 1862⟩]
def trialsX : List Tr := [⟨36000, 0, 35985⟩, ⟨72000, 0, 72010⟩, ⟨36000, 0, 35960⟩]
def rw2 (a b c d : Int) : TV := .sl [.int .i64 a, .int .i64 b, .int .i64 c, .int .i64 d] 2 true
def stockX : List Pt := [⟨0, 50, rw2 0 4 0 10⟩, ⟨0, 30, rw2 (-3) 3 (-12) 12⟩, ⟨1, 20, rw2 0 0 2 6⟩, ⟨2, 10, rw2 (-2) 2 (-2) 2⟩, ⟨2, 25, rw2 0 1 0 1⟩]
deriving instance DecidableEq for Span
theorem exRead : readP ownX 54000 1 = (⟨53970, 54016⟩, 0) := by decide +kernel
theorem exIndex : indexP ownX ⟨1880, 1900⟩ sunsX = (⟨-28, -22⟩, ⟨1885, 1892⟩, 0) := by decide +kernel
theorem exTrial : trialP ownX (trialsX.take 2) = ([⟨0, 0⟩, ⟨0, 10⟩, ⟨25, 40⟩], ⟨-30, -20⟩, 0) := by decide +kernel
theorem exFalse : falseP ownX trialsX = ([0, 2], 0) := by decide +kernel
theorem exClass : classP ownX = (2, 54, 0) := by decide +kernel
theorem exStock : stockX.all decP = true := by
  have e : ∀ x ∈ stockX, decP x = true := fun x hx => by
    unfold decP rowL
    simp only [unS_c]
    unfold stockX at hx
    simp only [List.mem_cons, List.not_mem_nil, or_false] at hx
    rcases hx with rfl | rfl | rfl | rfl | rfl <;> decide
  exact List.all_eq_true.2 e
theorem exAsm : asmP stockX 20 = (.sl [.int .i64 1, .int .i64 2, .int .i64 3] 3 true, 60, 0) := by
  rw [asmP_N, show asmN errsC stockX 20 = (some (1, 2, 3), 60, 0) by decide +kernel]; rfl
end Go.Os
namespace Go.Proofs.Ytjmkccckohcfkaa
open Go.RowKit Go.Pm Go.Oc Go.Oh Go.Os
set_option maxRecDepth 100000
set_option linter.unusedVariables false
set_option maxHeartbeats 4000000

noncomputable def sxIndex : List TV → Option TV
  | [.agg [.int .i64 a0, sT, .int .i64 a1, .int .i64 a2, .int .i64 a3, sS], .agg [.int .i64 p, .int .i64 q], s] => match rowL unS sT, rowL unS sS, rowL unSun s with
    | some tab, some shade, some l => if tab.length ≤ 9000000000000 ∧ shade.length ≤ 9000000000000 ∧ l.length ≤ 9000000000000 then some (.tup [(indexP (⟨a0, tab, ⟨a1, a2⟩, a3, shade⟩ : Sx) ⟨p, q⟩ l).1.t, (indexP (⟨a0, tab, ⟨a1, a2⟩, a3, shade⟩ : Sx) ⟨p, q⟩ l).2.1.t, .int .i64 (indexP (⟨a0, tab, ⟨a1, a2⟩, a3, shade⟩ : Sx) ⟨p, q⟩ l).2.2]) else none
    | _, _, _ => none
  | _ => none
theorem sxIndex_ok : ∀ xs r, sxIndex xs = some r → PCalls Try.prog 22 xs r := by
  intro xs r h
  unfold sxIndex at h
  split at h
  · split at h
    · rename_i tab shade l hT hS hl
      have hT := rowL_some (un := unS) unS_nil (@unS_some) hT
      have hS := rowL_some (un := unS) unS_nil (@unS_some) hS
      have hl := rowL_some (un := unSun) unSun_nil (@unSun_some) hl
      split at h
      · rename_i hc; cases h; exact sIndex_c ⟨_, tab, ⟨_, _⟩, _, shade⟩ hT hS hc.1 hc.2.1 ⟨_, _⟩ hl hc.2.2
      · cases h
    · cases h
  · cases h
attribute [go_sem] sxIndex
noncomputable def sxTrial : List TV → Option TV
  | [.agg [.int .i64 a0, sT, .int .i64 a1, .int .i64 a2, .int .i64 a3, sS], s] => match rowL unS sT, rowL unS sS, rowL unTr s with
    | some tab, some shade, some l => if tab.length ≤ 9000000000000 ∧ shade.length ≤ 9000000000000 ∧ l.length ≤ 9000000000000 then some (.tup [rowF1 (trialP (⟨a0, tab, ⟨a1, a2⟩, a3, shade⟩ : Sx) l).1, (trialP (⟨a0, tab, ⟨a1, a2⟩, a3, shade⟩ : Sx) l).2.1.t, .int .i64 (trialP (⟨a0, tab, ⟨a1, a2⟩, a3, shade⟩ : Sx) l).2.2]) else none
    | _, _, _ => none
  | _ => none
theorem sxTrial_ok : ∀ xs r, sxTrial xs = some r → PCalls Try.prog 24 xs r := by
  intro xs r h
  unfold sxTrial at h
  split at h
  · split at h
    · rename_i tab shade l hT hS hl
      have hT := rowL_some (un := unS) unS_nil (@unS_some) hT
      have hS := rowL_some (un := unS) unS_nil (@unS_some) hS
      have hl := rowL_some (un := unTr) unTr_nil (@unTr_some) hl
      split at h
      · rename_i hc; cases h; exact sTrial_c ⟨_, tab, ⟨_, _⟩, _, shade⟩ hT hS hc.1 hc.2.1 hl hc.2.2
      · cases h
    · cases h
  · cases h
attribute [go_sem] sxTrial
noncomputable def sxFalse : List TV → Option TV
  | [.agg [.int .i64 a0, sT, .int .i64 a1, .int .i64 a2, .int .i64 a3, sS], s] => match rowL unS sT, rowL unS sS, rowL unTr s with
    | some tab, some shade, some l => if tab.length ≤ 9000000000000 ∧ shade.length ≤ 9000000000000 ∧ l.length ≤ 9000000000000 then some (.tup [rowI (nI (falseP (⟨a0, tab, ⟨a1, a2⟩, a3, shade⟩ : Sx) l).1), .int .i64 (falseP (⟨a0, tab, ⟨a1, a2⟩, a3, shade⟩ : Sx) l).2]) else none
    | _, _, _ => none
  | _ => none
theorem sxFalse_ok : ∀ xs r, sxFalse xs = some r → PCalls Try.prog 27 xs r := by
  intro xs r h
  unfold sxFalse at h
  split at h
  · split at h
    · rename_i tab shade l hT hS hl
      have hT := rowL_some (un := unS) unS_nil (@unS_some) hT
      have hS := rowL_some (un := unS) unS_nil (@unS_some) hS
      have hl := rowL_some (un := unTr) unTr_nil (@unTr_some) hl
      split at h
      · rename_i hc; cases h; exact sFalse_c ⟨_, tab, ⟨_, _⟩, _, shade⟩ hT hS hc.1 hc.2.1 hl hc.2.2
      · cases h
    · cases h
  · cases h
attribute [go_sem] sxFalse
noncomputable def sxAssemble : List TV → Option TV
  | [s, .int .i64 b] => match rowL unP s with
    | some l => if l.length ≤ 9000000000000 ∧ l.all decP = true then some (.tup [(asmP l b).1, .int .i64 (asmP l b).2.1, .int .i64 (asmP l b).2.2]) else none
    | none => none
  | _ => none
theorem sxAssemble_ok : ∀ xs r, sxAssemble xs = some r → PCalls Try.prog 30 xs r := by
  intro xs r h
  unfold sxAssemble at h
  split at h
  · split at h
    · rename_i l hl
      have hl := rowL_some (un := unP) (by first | rfl | exact unP_nil) (@unP_some) hl
      split at h
      · rename_i hc; cases h; exact sAssemble_c hl hc.1 hc.2 _
      · cases h
    · cases h
  · cases h
attribute [go_sem] sxAssemble
noncomputable def spO1 : Pm.Spec := ((((((spH.one 17 sxCheck).one 15 sxRead).one 19 sxClass).one 22 sxIndex).one 24 sxTrial).one 27 sxFalse).one 30 sxAssemble
@[go_sem] theorem spO1_p (f : FuncId) (xs : List TV) : spO1.p f xs = Pm.Spec.p (((((((spH.one 17 sxCheck).one 15 sxRead).one 19 sxClass).one 22 sxIndex).one 24 sxTrial).one 27 sxFalse).one 30 sxAssemble) f xs := rfl
@[go_sem] theorem spO1_h (f : FuncId) (ps : List PV) (hl : List PO) : spO1.h f ps hl = Pm.Spec.h (((((((spH.one 17 sxCheck).one 15 sxRead).one 19 sxClass).one 22 sxIndex).one 24 sxTrial).one 27 sxFalse).one 30 sxAssemble) f ps hl := rfl
@[go_sem] theorem spO1_fz (f : FuncId) : spO1.fz f = Pm.Spec.fz (((((((spH.one 17 sxCheck).one 15 sxRead).one 19 sxClass).one 22 sxIndex).one 24 sxTrial).one 27 sxFalse).one 30 sxAssemble) f := rfl
@[go_sem] theorem spO1_fr (f : FuncId) : spO1.fr f = Pm.Spec.fr (((((((spH.one 17 sxCheck).one 15 sxRead).one 19 sxClass).one 22 sxIndex).one 24 sxTrial).one 27 sxFalse).one 30 sxAssemble) f := rfl
@[go_sem] theorem spO1_mu (t : TypeId) : spO1.mu t = Pm.Spec.mu (((((((spH.one 17 sxCheck).one 15 sxRead).one 19 sxClass).one 22 sxIndex).one 24 sxTrial).one 27 sxFalse).one 30 sxAssemble) t := rfl
@[go_sem] theorem spO1_nf (t : TypeId) : spO1.nf t = Pm.Spec.nf (((((((spH.one 17 sxCheck).one 15 sxRead).one 19 sxClass).one 22 sxIndex).one 24 sxTrial).one 27 sxFalse).one 30 sxAssemble) t := rfl
theorem spO1_ok : SpecOk Try.prog spO1 := Spec.one_ok sxAssemble_ok (Spec.one_ok sxFalse_ok (Spec.one_ok sxTrial_ok (Spec.one_ok sxIndex_ok (Spec.one_ok sxClass_ok (Spec.one_ok sxRead_ok (Spec.one_ok sxCheck_ok spH_ok))))))
theorem oTo_c (a b : Int) : PCalls Try.prog 40 [.int .i64 a, .int .i64 b] (.agg [.int .i64 a, .int .i64 b]) := by
  refine pcalls_by Try.mixes noSpec_ok (fn := Try.f40) Try.func40 rfl (by kernel_rfl) (by show 2 ≤ _; decide) ?_
  simp (decide := true) (maxSteps := 4000000) only [go_sem, Nat.reduceAdd, Nat.reduceSub, Nat.reduceMul, Nat.reduceDiv, Nat.reduceMod, Nat.reduceLT, Nat.reduceLeDiff, Nat.reduceEqDiff, Nat.reduceBEq, Nat.reduceBNe, Nat.reduceGT, Int.reduceAdd, Int.reduceSub, Int.reduceMul, Int.reduceNeg, Int.reduceLT, Int.reduceLE, Int.reduceEq, Int.reduceNe, Int.reduceBEq, Int.reduceBNe, Int.reduceToNat, Int.reduceGT, Int.reduceGE, ↓reduceIte, decide_true, decide_false, eq_self, Nat.mul_one, Nat.zero_mul, Nat.one_mul, Int.le_refl, Nat.le_refl, Int.cast_ofNat_Int, Try.f40]
noncomputable def xoTo : List TV → Option TV
  | [.int .i64 a, .int .i64 b] => some (.agg [.int .i64 a, .int .i64 b])
  | _ => none
theorem xoTo_ok : ∀ xs r, xoTo xs = some r → PCalls Try.prog 40 xs r := by
  intro xs r h
  unfold xoTo at h
  split at h
  · cases h; exact oTo_c _ _
  · cases h
attribute [go_sem] xoTo
noncomputable def spO2 : Pm.Spec := spO1.one 40 xoTo
@[go_sem] theorem spO2_p (f : FuncId) (xs : List TV) : spO2.p f xs = Pm.Spec.p (spO1.one 40 xoTo) f xs := rfl
@[go_sem] theorem spO2_h (f : FuncId) (ps : List PV) (hl : List PO) : spO2.h f ps hl = Pm.Spec.h (spO1.one 40 xoTo) f ps hl := rfl
@[go_sem] theorem spO2_fz (f : FuncId) : spO2.fz f = Pm.Spec.fz (spO1.one 40 xoTo) f := rfl
@[go_sem] theorem spO2_fr (f : FuncId) : spO2.fr f = Pm.Spec.fr (spO1.one 40 xoTo) f := rfl
@[go_sem] theorem spO2_mu (t : TypeId) : spO2.mu t = Pm.Spec.mu (spO1.one 40 xoTo) t := rfl
@[go_sem] theorem spO2_nf (t : TypeId) : spO2.nf t = Pm.Spec.nf (spO1.one 40 xoTo) t := rfl
theorem spO2_ok : SpecOk Try.prog spO2 := Spec.one_ok xoTo_ok spO1_ok
def ownT : TV := .agg [.int .i64 36000, .sl [.int .i64 0, .int .i64 0, .int .i64 (-10), .int .i64 10, .int .i64 20, .int .i64 40] 3 true, .int .i64 (-30), .int .i64 (-20), .int .i64 5, .sl [.int .i64 0, .int .i64 6, .int .i64 (-4), .int .i64 4] 2 true]
theorem oOwn_c : PCalls Try.prog 50 [] ownT := by
  refine pcalls_by Try.mixes spO2_ok (fn := Try.f50) Try.func50 rfl (by kernel_rfl) (by show 0 ≤ _; decide) ?_
  simp (decide := true) (maxSteps := 4000000) only [go_sem, Nat.reduceAdd, Nat.reduceSub, Nat.reduceMul, Nat.reduceDiv, Nat.reduceMod, Nat.reduceLT, Nat.reduceLeDiff, Nat.reduceEqDiff, Nat.reduceBEq, Nat.reduceBNe, Nat.reduceGT, Int.reduceAdd, Int.reduceSub, Int.reduceMul, Int.reduceNeg, Int.reduceLT, Int.reduceLE, Int.reduceEq, Int.reduceNe, Int.reduceBEq, Int.reduceBNe, Int.reduceToNat, Int.reduceGT, Int.reduceGE, ↓reduceIte, decide_true, decide_false, eq_self, Nat.mul_one, Nat.zero_mul, Nat.one_mul, Int.le_refl, Nat.le_refl, Int.cast_ofNat_Int, Try.f50, ownT]
noncomputable def xoOwn : List TV → Option TV
  | [] => some (ownT)
  | _ => none
theorem xoOwn_ok : ∀ xs r, xoOwn xs = some r → PCalls Try.prog 50 xs r := by
  intro xs r h
  unfold xoOwn at h
  split at h
  · cases h; exact oOwn_c
  · cases h
attribute [go_sem] xoOwn
def sunsT : TV := .sl [.int .i64 1915, .int .i64 1865, .int .i64 1912, .int .i64 1862] 2 true
theorem oSuns_c : PCalls Try.prog 51 [] sunsT := by
  refine pcalls_by Try.mixes spO2_ok (fn := Try.f51) Try.func51 rfl (by kernel_rfl) (by show 0 ≤ _; decide) ?_
  simp (decide := true) (maxSteps := 4000000) only [go_sem, Nat.reduceAdd, Nat.reduceSub, Nat.reduceMul, Nat.reduceDiv, Nat.reduceMod, Nat.reduceLT, Nat.reduceLeDiff, Nat.reduceEqDiff, Nat.reduceBEq, Nat.reduceBNe, Nat.reduceGT, Int.reduceAdd, Int.reduceSub, Int.reduceMul, Int.reduceNeg, Int.reduceLT, Int.reduceLE, Int.reduceEq, Int.reduceNe, Int.reduceBEq, Int.reduceBNe, Int.reduceToNat, Int.reduceGT, Int.reduceGE, ↓reduceIte, decide_true, decide_false, eq_self, Nat.mul_one, Nat.zero_mul, Nat.one_mul, Int.le_refl, Nat.le_refl, Int.cast_ofNat_Int, Try.f51, sunsT]
noncomputable def xoSuns : List TV → Option TV
  | [] => some (sunsT)
  | _ => none
theorem xoSuns_ok : ∀ xs r, xoSuns xs = some r → PCalls Try.prog 51 xs r := by
  intro xs r h
  unfold xoSuns at h
  split at h
  · cases h; exact oSuns_c
  · cases h
attribute [go_sem] xoSuns
theorem oTrial_c (a b : Int) : PCalls Try.prog 52 [.int .i64 a, .int .i64 b] (.agg [.int .i64 a, .int .i64 0, .int .i64 b]) := by
  refine pcalls_by Try.mixes spO2_ok (fn := Try.f52) Try.func52 rfl (by kernel_rfl) (by show 2 ≤ _; decide) ?_
  simp (decide := true) (maxSteps := 4000000) only [go_sem, Nat.reduceAdd, Nat.reduceSub, Nat.reduceMul, Nat.reduceDiv, Nat.reduceMod, Nat.reduceLT, Nat.reduceLeDiff, Nat.reduceEqDiff, Nat.reduceBEq, Nat.reduceBNe, Nat.reduceGT, Int.reduceAdd, Int.reduceSub, Int.reduceMul, Int.reduceNeg, Int.reduceLT, Int.reduceLE, Int.reduceEq, Int.reduceNe, Int.reduceBEq, Int.reduceBNe, Int.reduceToNat, Int.reduceGT, Int.reduceGE, ↓reduceIte, decide_true, decide_false, eq_self, Nat.mul_one, Nat.zero_mul, Nat.one_mul, Int.le_refl, Nat.le_refl, Int.cast_ofNat_Int, Try.f52]
noncomputable def xoTrial : List TV → Option TV
  | [.int .i64 a, .int .i64 b] => some (.agg [.int .i64 a, .int .i64 0, .int .i64 b])
  | _ => none
theorem xoTrial_ok : ∀ xs r, xoTrial xs = some r → PCalls Try.prog 52 xs r := by
  intro xs r h
  unfold xoTrial at h
  split at h
  · cases h; exact oTrial_c _ _
  · cases h
attribute [go_sem] xoTrial
noncomputable def spO3 : Pm.Spec := spO2.one 52 xoTrial
@[go_sem] theorem spO3_p (f : FuncId) (xs : List TV) : spO3.p f xs = Pm.Spec.p (spO2.one 52 xoTrial) f xs := rfl
@[go_sem] theorem spO3_h (f : FuncId) (ps : List PV) (hl : List PO) : spO3.h f ps hl = Pm.Spec.h (spO2.one 52 xoTrial) f ps hl := rfl
@[go_sem] theorem spO3_fz (f : FuncId) : spO3.fz f = Pm.Spec.fz (spO2.one 52 xoTrial) f := rfl
@[go_sem] theorem spO3_fr (f : FuncId) : spO3.fr f = Pm.Spec.fr (spO2.one 52 xoTrial) f := rfl
@[go_sem] theorem spO3_mu (t : TypeId) : spO3.mu t = Pm.Spec.mu (spO2.one 52 xoTrial) t := rfl
@[go_sem] theorem spO3_nf (t : TypeId) : spO3.nf t = Pm.Spec.nf (spO2.one 52 xoTrial) t := rfl
theorem spO3_ok : SpecOk Try.prog spO3 := Spec.one_ok xoTrial_ok spO2_ok
def trialsT : TV := .sl [.int .i64 36000, .int .i64 0, .int .i64 35985, .int .i64 72000, .int .i64 0, .int .i64 72010, .int .i64 36000, .int .i64 0, .int .i64 35960] 3 true
theorem oTrials_c : PCalls Try.prog 53 [] trialsT := by
  refine pcalls_by Try.mixes spO3_ok (fn := Try.f53) Try.func53 rfl (by kernel_rfl) (by show 0 ≤ _; decide) ?_
  simp (decide := true) (maxSteps := 4000000) only [go_sem, Nat.reduceAdd, Nat.reduceSub, Nat.reduceMul, Nat.reduceDiv, Nat.reduceMod, Nat.reduceLT, Nat.reduceLeDiff, Nat.reduceEqDiff, Nat.reduceBEq, Nat.reduceBNe, Nat.reduceGT, Int.reduceAdd, Int.reduceSub, Int.reduceMul, Int.reduceNeg, Int.reduceLT, Int.reduceLE, Int.reduceEq, Int.reduceNe, Int.reduceBEq, Int.reduceBNe, Int.reduceToNat, Int.reduceGT, Int.reduceGE, ↓reduceIte, decide_true, decide_false, eq_self, Nat.mul_one, Nat.zero_mul, Nat.one_mul, Int.le_refl, Nat.le_refl, Int.cast_ofNat_Int, Try.f53, trialsT]
noncomputable def xoTrials : List TV → Option TV
  | [] => some (trialsT)
  | _ => none
theorem xoTrials_ok : ∀ xs r, xoTrials xs = some r → PCalls Try.prog 53 xs r := by
  intro xs r h
  unfold xoTrials at h
  split at h
  · cases h; exact oTrials_c
  · cases h
attribute [go_sem] xoTrials
def stockT : TV := .sl [.int .i64 0, .int .i64 50, rw2 0 4 0 10, .int .i64 0, .int .i64 30, rw2 (-3) 3 (-12) 12, .int .i64 1, .int .i64 20, rw2 0 0 2 6, .int .i64 2, .int .i64 10, rw2 (-2) 2 (-2) 2, .int .i64 2, .int .i64 25, rw2 0 1 0 1] 5 true
theorem oStock_c : PCalls Try.prog 54 [] stockT := by
  refine pcalls_by Try.mixes spO3_ok (fn := Try.f54) Try.func54 rfl (by kernel_rfl) (by show 0 ≤ _; decide) ?_
  simp (decide := true) (maxSteps := 4000000) only [go_sem, Nat.reduceAdd, Nat.reduceSub, Nat.reduceMul, Nat.reduceDiv, Nat.reduceMod, Nat.reduceLT, Nat.reduceLeDiff, Nat.reduceEqDiff, Nat.reduceBEq, Nat.reduceBNe, Nat.reduceGT, Int.reduceAdd, Int.reduceSub, Int.reduceMul, Int.reduceNeg, Int.reduceLT, Int.reduceLE, Int.reduceEq, Int.reduceNe, Int.reduceBEq, Int.reduceBNe, Int.reduceToNat, Int.reduceGT, Int.reduceGE, ↓reduceIte, decide_true, decide_false, eq_self, Nat.mul_one, Nat.zero_mul, Nat.one_mul, Int.le_refl, Nat.le_refl, Int.cast_ofNat_Int, Try.f54, stockT, rw2]
noncomputable def xoStock : List TV → Option TV
  | [] => some (stockT)
  | _ => none
theorem xoStock_ok : ∀ xs r, xoStock xs = some r → PCalls Try.prog 54 xs r := by
  intro xs r h
  unfold xoStock at h
  split at h
  · cases h; exact oStock_c
  · cases h
attribute [go_sem] xoStock
noncomputable def spO4 : Pm.Spec := (((spO3.one 50 xoOwn).one 51 xoSuns).one 53 xoTrials).one 54 xoStock
@[go_sem] theorem spO4_p (f : FuncId) (xs : List TV) : spO4.p f xs = Pm.Spec.p ((((spO3.one 50 xoOwn).one 51 xoSuns).one 53 xoTrials).one 54 xoStock) f xs := rfl
@[go_sem] theorem spO4_h (f : FuncId) (ps : List PV) (hl : List PO) : spO4.h f ps hl = Pm.Spec.h ((((spO3.one 50 xoOwn).one 51 xoSuns).one 53 xoTrials).one 54 xoStock) f ps hl := rfl
@[go_sem] theorem spO4_fz (f : FuncId) : spO4.fz f = Pm.Spec.fz ((((spO3.one 50 xoOwn).one 51 xoSuns).one 53 xoTrials).one 54 xoStock) f := rfl
@[go_sem] theorem spO4_fr (f : FuncId) : spO4.fr f = Pm.Spec.fr ((((spO3.one 50 xoOwn).one 51 xoSuns).one 53 xoTrials).one 54 xoStock) f := rfl
@[go_sem] theorem spO4_mu (t : TypeId) : spO4.mu t = Pm.Spec.mu ((((spO3.one 50 xoOwn).one 51 xoSuns).one 53 xoTrials).one 54 xoStock) t := rfl
@[go_sem] theorem spO4_nf (t : TypeId) : spO4.nf t = Pm.Spec.nf ((((spO3.one 50 xoOwn).one 51 xoSuns).one 53 xoTrials).one 54 xoStock) t := rfl
theorem spO4_ok : SpecOk Try.prog spO4 := Spec.one_ok xoStock_ok (Spec.one_ok xoTrials_ok (Spec.one_ok xoSuns_ok (Spec.one_ok xoOwn_ok spO3_ok)))
theorem oWorks_c : PCalls Try.prog 21 [] (.bool true) := by
  have e1 : unS [.int .i64 0, .int .i64 0, .int .i64 (-10), .int .i64 10, .int .i64 20, .int .i64 40] = some [⟨0, 0⟩, ⟨-10, 10⟩, ⟨20, 40⟩] := unS_eq [⟨0, 0⟩, ⟨-10, 10⟩, ⟨20, 40⟩]
  have e2 : unS [.int .i64 0, .int .i64 6, .int .i64 (-4), .int .i64 4] = some [⟨0, 6⟩, ⟨-4, 4⟩] := unS_eq [⟨0, 6⟩, ⟨-4, 4⟩]
  have e3 : unSun [.int .i64 1915, .int .i64 1865, .int .i64 1912, .int .i64 1862] = some [⟨1915, 1865⟩, ⟨1912, 1862⟩] := unSun_eq [⟨1915, 1865⟩, ⟨1912, 1862⟩]
  have e4 : unTr [.int .i64 36000, .int .i64 0, .int .i64 35985, .int .i64 72000, .int .i64 0, .int .i64 72010] = some (trialsX.take 2) := unTr_eq (trialsX.take 2)
  have e5 : unTr [.int .i64 36000, .int .i64 0, .int .i64 35985, .int .i64 72000, .int .i64 0, .int .i64 72010, .int .i64 36000, .int .i64 0, .int .i64 35960] = some trialsX := unTr_eq trialsX
  have e6 : unP [.int .i64 0, .int .i64 50, rw2 0 4 0 10, .int .i64 0, .int .i64 30, rw2 (-3) 3 (-12) 12, .int .i64 1, .int .i64 20, rw2 0 0 2 6, .int .i64 2, .int .i64 10, rw2 (-2) 2 (-2) 2, .int .i64 2, .int .i64 25, rw2 0 1 0 1] = some stockX := unP_eq stockX
  have eo : Sx.mk 36000 [⟨0, 0⟩, ⟨-10, 10⟩, ⟨20, 40⟩] ⟨-30, -20⟩ 5 [⟨0, 6⟩, ⟨-4, 4⟩] = ownX := rfl
  have es : [(⟨1915, 1865⟩ : Sun), ⟨1912, 1862⟩] = sunsX := rfl
  have l1 : (trialsX.take 2).length = 2 := rfl
  have l2 : trialsX.length = 3 := rfl
  have l3 : stockX.length = 5 := rfl
  have e7 : unS [.int .i64 0, .int .i64 0, .int .i64 0, .int .i64 10, .int .i64 25, .int .i64 40] = some [⟨0, 0⟩, ⟨0, 10⟩, ⟨25, 40⟩] := unS_eq [⟨0, 0⟩, ⟨0, 10⟩, ⟨25, 40⟩]
  have r1 : rowF1 [⟨0, 0⟩, ⟨0, 10⟩, ⟨25, 40⟩] = .sl [.int .i64 0, .int .i64 0, .int .i64 0, .int .i64 10, .int .i64 25, .int .i64 40] 3 true := rfl
  have r2 : rowI (nI [0, 2]) = .sl [.int .i64 0, .int .i64 2] 2 false := rfl
  have e8 : unI [.int .i64 0, .int .i64 2] = some [0, 2] := unI_eq [0, 2]
  have e9 : unI [.int .i64 1, .int .i64 2, .int .i64 3] = some [1, 2, 3] := unI_eq [1, 2, 3]
  refine pcalls_by Try.mixes spO4_ok (fn := Try.f21) Try.func21 rfl (by kernel_rfl) (by show 0 ≤ _; decide) ?_
  simp (decide := true) (maxSteps := 4000000) only [go_sem, Nat.reduceAdd, Nat.reduceSub, Nat.reduceMul, Nat.reduceDiv, Nat.reduceMod, Nat.reduceLT, Nat.reduceLeDiff, Nat.reduceEqDiff, Nat.reduceBEq, Nat.reduceBNe, Nat.reduceGT, Int.reduceAdd, Int.reduceSub, Int.reduceMul, Int.reduceNeg, Int.reduceLT, Int.reduceLE, Int.reduceEq, Int.reduceNe, Int.reduceBEq, Int.reduceBNe, Int.reduceToNat, Int.reduceGT, Int.reduceGE, ↓reduceIte, decide_true, decide_false, eq_self, Nat.mul_one, Nat.zero_mul, Nat.one_mul, Int.le_refl, Nat.le_refl, Int.cast_ofNat_Int, Try.f21, ownT, sunsT, trialsT, stockT, e1, e2, e3, e4, e5, e6, e7, e8, e9, eo, es, l1, l2, l3, r1, r2, exRead, exIndex, exTrial, exFalse, exClass, exStock, exAsm, List.length_cons, List.length_nil, Span.t, Span.cs]
  done
noncomputable def xoWorks : List TV → Option TV
  | [] => some (.bool true)
  | _ => none
theorem xoWorks_ok : ∀ xs r, xoWorks xs = some r → PCalls Try.prog 21 xs r := by
  intro xs r h
  unfold xoWorks at h
  split at h
  · cases h; exact oWorks_c
  · cases h
attribute [go_sem] xoWorks
noncomputable def spO5 : Pm.Spec := spO2.one 21 xoWorks
@[go_sem] theorem spO5_p (f : FuncId) (xs : List TV) : spO5.p f xs = Pm.Spec.p (spO2.one 21 xoWorks) f xs := rfl
@[go_sem] theorem spO5_h (f : FuncId) (ps : List PV) (hl : List PO) : spO5.h f ps hl = Pm.Spec.h (spO2.one 21 xoWorks) f ps hl := rfl
@[go_sem] theorem spO5_fz (f : FuncId) : spO5.fz f = Pm.Spec.fz (spO2.one 21 xoWorks) f := rfl
@[go_sem] theorem spO5_fr (f : FuncId) : spO5.fr f = Pm.Spec.fr (spO2.one 21 xoWorks) f := rfl
@[go_sem] theorem spO5_mu (t : TypeId) : spO5.mu t = Pm.Spec.mu (spO2.one 21 xoWorks) t := rfl
@[go_sem] theorem spO5_nf (t : TypeId) : spO5.nf t = Pm.Spec.nf (spO2.one 21 xoWorks) t := rfl
theorem spO5_ok : SpecOk Try.prog spO5 := Spec.one_ok xoWorks_ok spO2_ok
end Go.Proofs.Ytjmkccckohcfkaa

/- Part Oca. -/
namespace Go.Os
open Go Go.Pm Go.Oc Go.Oh
/-- A span without breadth, as a number chooses it. -/
def tCh (bits : List Int) (s : Span) (n : Int) : Span := ⟨chosen s.lo s.hi (pickI bits n), chosen s.lo s.hi (pickI bits n)⟩
def tTab (x : Sx) (bits : List Int) (k : Nat) : List Span := (List.range k).map fun (i : Nat) => tCh bits (atS x.tab i) (i : Int)
def tSh (x : Sx) (bits : List Int) (k : Nat) : List Span := (List.range k).map fun (i : Nat) => tCh bits (atS x.shade i) (2 * (i : Int) + 1)
/-- The sextant that has no spans any more. -/
def truthX (x : Sx) (bits : List Int) : Sx := ⟨x.step, tTab x bits x.tab.length, tCh bits x.idx 7, x.wrong, tSh x bits x.shade.length⟩
theorem tTab_succ (x : Sx) (bits : List Int) (k : Nat) : tTab x bits (k + 1) = tTab x bits k ++ [tCh bits (atS x.tab k) k] := by unfold tTab; rw [List.range_succ, List.map_append]; rfl
theorem tSh_succ (x : Sx) (bits : List Int) (k : Nat) : tSh x bits (k + 1) = tSh x bits k ++ [tCh bits (atS x.shade k) (2 * (k : Int) + 1)] := by unfold tSh; rw [List.range_succ, List.map_append]; rfl
theorem tTab_len (x : Sx) (bits : List Int) (k : Nat) : (tTab x bits k).length = k := by simp [tTab]
theorem tSh_len (x : Sx) (bits : List Int) (k : Nat) : (tSh x bits k).length = k := by simp [tSh]
theorem tTab_at {x : Sx} {bits : List Int} {n k : Nat} (h : k < n) : atS (tTab x bits n) k = tCh bits (atS x.tab k) k := by
  apply atS_eq; unfold tTab; rw [List.getElem?_map, List.getElem?_range h]; rfl
theorem tSh_at {x : Sx} {bits : List Int} {n k : Nat} (h : k < n) : atS (tSh x bits n) k = tCh bits (atS x.shade k) (2 * (k : Int) + 1) := by
  apply atS_eq; unfold tSh; rw [List.getElem?_map, List.getElem?_range h]; rfl
theorem tCh_in (bits : List Int) {s : Span} (n : Int) (h : s.lo ≤ s.hi) : (s.lo ≤ (tCh bits s n).lo ∧ (tCh bits s n).lo ≤ s.hi) ∧ (tCh bits s n).hi = (tCh bits s n).lo := by
  have := chosen_mem (pickI bits n) h
  exact ⟨this, rfl⟩
theorem mem_tab {x : Sx} {bits : List Int} {k : Nat} {s : Span} (h : s ∈ tTab x bits k) : ∃ i, i < k ∧ s = tCh bits (atS x.tab i) i := by
  unfold tTab at h
  obtain ⟨i, hi, rfl⟩ := List.mem_map.1 h
  exact ⟨i, List.mem_range.1 hi, rfl⟩
theorem mem_sh {x : Sx} {bits : List Int} {k : Nat} {s : Span} (h : s ∈ tSh x bits k) : ∃ i, i < k ∧ s = tCh bits (atS x.shade i) (2 * (i : Int) + 1) := by
  unfold tSh at h
  obtain ⟨i, hi, rfl⟩ := List.mem_map.1 h
  exact ⟨i, List.mem_range.1 hi, rfl⟩
theorem truth_good {x : Sx} (h : GoodS x) (bits : List Int) : GoodS (truthX x bits) := by
  refine ⟨h.st, ?_, ?_, ?_, ?_, h.wr, ?_, ?_⟩
  · show 2 ≤ (tTab x bits x.tab.length).length ∧ (tTab x bits x.tab.length).length ≤ 12; rw [tTab_len]; exact h.len
  · intro s hs
    obtain ⟨i, hi, rfl⟩ := mem_tab hs
    have ht := h.tab _ (atS_mem hi)
    have := tCh_in bits (i : Int) ht.2.1
    omega
  · show x.step * ((tTab x bits x.tab.length).length - 1) ≤ _; rw [tTab_len]; exact h.long
  · have ht := h.idx
    have := tCh_in bits 7 ht.2.1
    show _ ≤ (tCh bits x.idx 7).lo ∧ (tCh bits x.idx 7).lo ≤ (tCh bits x.idx 7).hi ∧ (tCh bits x.idx 7).hi ≤ _
    omega
  · show (tSh x bits x.shade.length).length ≤ 6; rw [tSh_len]; exact h.sh
  · intro s hs
    obtain ⟨i, hi, rfl⟩ := mem_sh hs
    have ht := h.shade _ (atS_mem hi)
    have := tCh_in bits (2 * (i : Int) + 1) ht.2.1
    omega
/-- A row that was built, or none. -/
def rowO (l : List Span) : TV := if l.length = 0 then .nilSl else .sl (l.flatMap Span.cs) l.length false
theorem rowO_is (l : List Span) : IsRow Span.cs (rowO l) l := rowSp_row l
def shL (x : Sx) (set : Nat) (k : Nat) : Int := (List.range k).foldl (fun n i => if set.testBit i then n + (atS x.shade i).lo else n) 0
theorem shL_succ (x : Sx) (set k : Nat) : shL x set (k + 1) = if set.testBit k then shL x set k + (atS x.shade k).lo else shL x set k := by unfold shL; rw [List.range_succ, List.foldl_append]; rfl
/-- The true angle, by a sextant of which only the lower ends are looked at. -/
def angleV (x : Sx) (a : Int) (set : Nat) (w : Int) : Int := a + x.idx.lo + w + (corr x.step x.tab a).lo + shL x set x.shade.length
theorem shL_b {x : Sx} (h : GoodS x) (set : Nat) : ∀ k, k ≤ x.shade.length → -(120 * (k : Int)) ≤ shL x set k ∧ shL x set k ≤ 120 * (k : Int)
  | 0, _ => by simp [shL]
  | k + 1, hk => by
    have ih := shL_b h set k (by omega)
    have hs := h.shade _ (atS_mem (show k < x.shade.length by omega))
    rw [shL_succ]
    split <;> omega
end Go.Os
namespace Go.Proofs.Ytjmkccckohcfkaa
open Go.RowKit Go.Pm Go.Oc Go.Oh Go.Os
set_option maxRecDepth 100000
set_option linter.unusedVariables false
set_option maxHeartbeats 4000000

theorem oSound_c (x : Sx) {sT sS : TV} (hT : IsRow Span.cs sT x.tab) (hS : IsRow Span.cs sS x.shade) (lT : x.tab.length ≤ 9000000000000) (lS : x.shade.length ≤ 9000000000000) : PCalls Try.prog 32 [x.t sT sS] (.bool (sxOk x)) := by
  have rT := rowS_is hT
  have rS := rowS_is hS
  unfold rowL at rT rS
  simp only [unS_nil] at rT rS
  have e0 : Sx.mk x.step x.tab ⟨x.idx.lo, x.idx.hi⟩ x.wrong x.shade = x := rfl
  have ei : Span.mk x.idx.lo x.idx.hi = x.idx := rfl
  refine pcalls_by Try.mixes spO5_ok (fn := Try.f32) Try.func32 rfl (by kernel_rfl) (by show 1 ≤ _; decide) ?_
  cases hv : sxOk x with
  | false =>
    have b : ((50 : Int) == 0) = false := rfl
    have eT : ∀ l : List Span, x.tab = l → Sx.mk x.step l ⟨x.idx.lo, x.idx.hi⟩ x.wrong x.shade = x := fun l hl => by rw [← hl]
    have eS : ∀ l : List Span, x.shade = l → Sx.mk x.step x.tab ⟨x.idx.lo, x.idx.hi⟩ x.wrong l = x := fun l hl => by rw [← hl]
    have eTS : ∀ l m : List Span, x.tab = l → x.shade = m → Sx.mk x.step l ⟨x.idx.lo, x.idx.hi⟩ x.wrong m = x := fun l m hl hm => by rw [← hl, ← hm]
    have z : ([] : List Span).length ≤ 9000000000000 := by simp
    rcases hT with ⟨rfl, hT⟩ | ⟨f, rfl⟩ <;> rcases hS with ⟨rfl, hS⟩ | ⟨g, rfl⟩
    · simp (decide := true) (maxSteps := 4000000) only [go_sem, Nat.reduceAdd, Nat.reduceSub, Nat.reduceMul, Nat.reduceDiv, Nat.reduceMod, Nat.reduceLT, Nat.reduceLeDiff, Nat.reduceEqDiff, Nat.reduceBEq, Nat.reduceBNe, Nat.reduceGT, Int.reduceAdd, Int.reduceSub, Int.reduceMul, Int.reduceNeg, Int.reduceLT, Int.reduceLE, Int.reduceEq, Int.reduceNe, Int.reduceBEq, Int.reduceBNe, Int.reduceToNat, Int.reduceGT, Int.reduceGE, ↓reduceIte, decide_true, decide_false, eq_self, Nat.mul_one, Nat.zero_mul, Nat.one_mul, Int.le_refl, Nat.le_refl, Int.cast_ofNat_Int, Try.f32, Sx.t, Sx.cs, z, eTS [] [] hT hS, hv, b, unS_eq, Bool.false_and]
    · simp (decide := true) (maxSteps := 4000000) only [go_sem, Nat.reduceAdd, Nat.reduceSub, Nat.reduceMul, Nat.reduceDiv, Nat.reduceMod, Nat.reduceLT, Nat.reduceLeDiff, Nat.reduceEqDiff, Nat.reduceBEq, Nat.reduceBNe, Nat.reduceGT, Int.reduceAdd, Int.reduceSub, Int.reduceMul, Int.reduceNeg, Int.reduceLT, Int.reduceLE, Int.reduceEq, Int.reduceNe, Int.reduceBEq, Int.reduceBNe, Int.reduceToNat, Int.reduceGT, Int.reduceGE, ↓reduceIte, decide_true, decide_false, eq_self, Nat.mul_one, Nat.zero_mul, Nat.one_mul, Int.le_refl, Nat.le_refl, Int.cast_ofNat_Int, Try.f32, Sx.t, Sx.cs, z, lS, eT [] hT, hv, b, unS_eq, Bool.false_and]
    · simp (decide := true) (maxSteps := 4000000) only [go_sem, Nat.reduceAdd, Nat.reduceSub, Nat.reduceMul, Nat.reduceDiv, Nat.reduceMod, Nat.reduceLT, Nat.reduceLeDiff, Nat.reduceEqDiff, Nat.reduceBEq, Nat.reduceBNe, Nat.reduceGT, Int.reduceAdd, Int.reduceSub, Int.reduceMul, Int.reduceNeg, Int.reduceLT, Int.reduceLE, Int.reduceEq, Int.reduceNe, Int.reduceBEq, Int.reduceBNe, Int.reduceToNat, Int.reduceGT, Int.reduceGE, ↓reduceIte, decide_true, decide_false, eq_self, Nat.mul_one, Nat.zero_mul, Nat.one_mul, Int.le_refl, Nat.le_refl, Int.cast_ofNat_Int, Try.f32, Sx.t, Sx.cs, z, lT, eS [] hS, hv, b, unS_eq, Bool.false_and]
    · simp (decide := true) (maxSteps := 4000000) only [go_sem, Nat.reduceAdd, Nat.reduceSub, Nat.reduceMul, Nat.reduceDiv, Nat.reduceMod, Nat.reduceLT, Nat.reduceLeDiff, Nat.reduceEqDiff, Nat.reduceBEq, Nat.reduceBNe, Nat.reduceGT, Int.reduceAdd, Int.reduceSub, Int.reduceMul, Int.reduceNeg, Int.reduceLT, Int.reduceLE, Int.reduceEq, Int.reduceNe, Int.reduceBEq, Int.reduceBNe, Int.reduceToNat, Int.reduceGT, Int.reduceGE, ↓reduceIte, decide_true, decide_false, eq_self, Nat.mul_one, Nat.zero_mul, Nat.one_mul, Int.le_refl, Nat.le_refl, Int.cast_ofNat_Int, Try.f32, Sx.t, Sx.cs, lT, lS, e0, hv, b, unS_eq, Bool.false_and]
  | true =>
    have h := sxOk_iff.1 hv
    obtain ⟨f, rfl⟩ := good_T h hT
    have rT := unS_eq x.tab
    have b : ((0 : Int) == 0) = true := rfl
    have h1 : inB x.step 1 72000 = true := inB_iff.2 h.st
    have h2 : inB x.tab.length 2 12 = true := inB_iff.2 (by have := h.len; omega)
    have h3 : (x.shade.length : Int) ≤ 6 := by have := h.sh; omega
    have h4 : spannedB x.idx (-1800) 1800 = true := spannedB_iff.2 h.idx
    rcases hS with ⟨rfl, hS⟩ | ⟨g, rfl⟩
    · simp (decide := true) (maxSteps := 4000000) only [go_sem, Nat.reduceAdd, Nat.reduceSub, Nat.reduceMul, Nat.reduceDiv, Nat.reduceMod, Nat.reduceLT, Nat.reduceLeDiff, Nat.reduceEqDiff, Nat.reduceBEq, Nat.reduceBNe, Nat.reduceGT, Int.reduceAdd, Int.reduceSub, Int.reduceMul, Int.reduceNeg, Int.reduceLT, Int.reduceLE, Int.reduceEq, Int.reduceNe, Int.reduceBEq, Int.reduceBNe, Int.reduceToNat, Int.reduceGT, Int.reduceGE, ↓reduceIte, decide_true, decide_false, eq_self, Nat.mul_one, Nat.zero_mul, Nat.one_mul, Int.le_refl, Nat.le_refl, Int.cast_ofNat_Int, Try.f32, Sx.t, Sx.cs, rT, rS, lT, lS, e0, hv, b, h1, h2, h4, ei, Bool.true_and, Bool.and_true, Bool.and_self]
    · simp (decide := true) (maxSteps := 4000000) only [go_sem, Nat.reduceAdd, Nat.reduceSub, Nat.reduceMul, Nat.reduceDiv, Nat.reduceMod, Nat.reduceLT, Nat.reduceLeDiff, Nat.reduceEqDiff, Nat.reduceBEq, Nat.reduceBNe, Nat.reduceGT, Int.reduceAdd, Int.reduceSub, Int.reduceMul, Int.reduceNeg, Int.reduceLT, Int.reduceLE, Int.reduceEq, Int.reduceNe, Int.reduceBEq, Int.reduceBNe, Int.reduceToNat, Int.reduceGT, Int.reduceGE, ↓reduceIte, decide_true, decide_false, eq_self, Nat.mul_one, Nat.zero_mul, Nat.one_mul, Int.le_refl, Nat.le_refl, Int.cast_ofNat_Int, Try.f32, Sx.t, Sx.cs, rT, unS_eq, lT, lS, e0, hv, b, h1, h2, h3, h4, ei, Bool.true_and, Bool.and_true, Bool.and_self]
noncomputable def xoSound : List TV → Option TV
  | [.agg [.int .i64 a0, sT, .int .i64 a1, .int .i64 a2, .int .i64 a3, sS]] => match rowL unS sT, rowL unS sS with
    | some tab, some shade => if tab.length ≤ 9000000000000 ∧ shade.length ≤ 9000000000000 then some (.bool (sxOk (⟨a0, tab, ⟨a1, a2⟩, a3, shade⟩ : Sx))) else none
    | _, _ => none
  | _ => none
theorem xoSound_ok : ∀ xs r, xoSound xs = some r → PCalls Try.prog 32 xs r := by
  intro xs r h
  unfold xoSound at h
  split at h
  · split at h
    · rename_i tab shade hT hS
      have hT := rowL_some (un := unS) unS_nil (@unS_some) hT
      have hS := rowL_some (un := unS) unS_nil (@unS_some) hS
      split at h
      · rename_i hc; cases h; exact oSound_c ⟨_, tab, ⟨_, _⟩, _, shade⟩ hT hS hc.1 hc.2
      · cases h
    · cases h
  · cases h
attribute [go_sem] xoSound
theorem oOne_c {bits : List Int} {s : TV} (hb : IsRow ic s bits) (lb : bits.length ≤ 17592186044415) (d : Span) (n : Int) (h1 : -9223372036854775808 ≤ d.lo ∧ d.lo ≤ 9223372036854775807) (h2 : -9223372036854775808 ≤ d.hi ∧ d.hi ≤ 9223372036854775807) : PCalls Try.prog 89 [d.t, .int .i64 n, .cptr [s]] (tCh bits d n).t := by
  have rI := rowI_is hb
  have m : bits.length ≤ 9223372036854775806 := by omega
  refine pcalls_by Try.mixes spO5_ok (fn := Try.f89) Try.func89 rfl (by kernel_rfl) (by show 3 ≤ _; decide) ?_
  unfold rowL at rI
  simp only [unI_nil] at rI
  simp (decide := true) (maxSteps := 4000000) only [go_sem, Nat.reduceAdd, Nat.reduceSub, Nat.reduceMul, Nat.reduceDiv, Nat.reduceMod, Nat.reduceLT, Nat.reduceLeDiff, Nat.reduceEqDiff, Nat.reduceBEq, Nat.reduceBNe, Nat.reduceGT, Int.reduceAdd, Int.reduceSub, Int.reduceMul, Int.reduceNeg, Int.reduceLT, Int.reduceLE, Int.reduceEq, Int.reduceNe, Int.reduceBEq, Int.reduceBNe, Int.reduceToNat, Int.reduceGT, Int.reduceGE, ↓reduceIte, decide_true, decide_false, eq_self, Nat.mul_one, Nat.zero_mul, Nat.one_mul, Int.le_refl, Nat.le_refl, Int.cast_ofNat_Int, Try.f89, Span.t, Span.cs, rI, m, h1, h2, tCh]
noncomputable def xoOne : List TV → Option TV
  | [.agg [.int .i64 a, .int .i64 b], .int .i64 n, .cptr [s]] => match rowL unI s with
    | some l => if l.length ≤ 17592186044415 ∧ (-9223372036854775808 ≤ a ∧ a ≤ 9223372036854775807) ∧ -9223372036854775808 ≤ b ∧ b ≤ 9223372036854775807 then some ((tCh l ⟨a, b⟩ n).t) else none
    | none => none
  | _ => none
theorem xoOne_ok : ∀ xs r, xoOne xs = some r → PCalls Try.prog 89 xs r := by
  intro xs r h
  unfold xoOne at h
  split at h
  · split at h
    · rename_i l hl
      have hl := rowL_some (un := unI) (by first | rfl | exact unI_nil) (@unI_some) hl
      split at h
      · rename_i hc; cases h; exact oOne_c hl hc.1 ⟨_, _⟩ _ hc.2.1 hc.2.2
      · cases h
    · cases h
  · cases h
attribute [go_sem] xoOne
noncomputable def spOc1 : Pm.Spec := { (noSpec.one 89 xoOne) with fz := fun _ => true }
@[go_sem] theorem spOc1_p (f : FuncId) (xs : List TV) : spOc1.p f xs = Pm.Spec.p ({ (noSpec.one 89 xoOne) with fz := fun _ => true }) f xs := rfl
@[go_sem] theorem spOc1_h (f : FuncId) (ps : List PV) (hl : List PO) : spOc1.h f ps hl = Pm.Spec.h ({ (noSpec.one 89 xoOne) with fz := fun _ => true }) f ps hl := rfl
@[go_sem] theorem spOc1_fz (f : FuncId) : spOc1.fz f = Pm.Spec.fz ({ (noSpec.one 89 xoOne) with fz := fun _ => true }) f := rfl
@[go_sem] theorem spOc1_fr (f : FuncId) : spOc1.fr f = Pm.Spec.fr ({ (noSpec.one 89 xoOne) with fz := fun _ => true }) f := rfl
@[go_sem] theorem spOc1_mu (t : TypeId) : spOc1.mu t = Pm.Spec.mu ({ (noSpec.one 89 xoOne) with fz := fun _ => true }) t := rfl
@[go_sem] theorem spOc1_nf (t : TypeId) : spOc1.nf t = Pm.Spec.nf ({ (noSpec.one 89 xoOne) with fz := fun _ => true }) t := rfl
theorem spOc1_ok : SpecOk Try.prog spOc1 := ⟨(Spec.one_ok xoOne_ok noSpec_ok).1, (Spec.one_ok xoOne_ok noSpec_ok).2⟩
theorem oTruth_c (x : Sx) {sT sS : TV} (hT : IsRow Span.cs sT x.tab) (hS : IsRow Span.cs sS x.shade) (hv : sxOk x = true) {bits : List Int} {s : TV} (hb : IsRow ic s bits) (lb : bits.length ≤ 17592186044415) : PCalls Try.prog 34 [x.t sT sS, s] ((truthX x bits).t (rowO (tTab x bits x.tab.length)) (rowO (tSh x bits x.shade.length))) := by
  have h := sxOk_iff.1 hv
  obtain ⟨f, rfl⟩ := good_T h hT
  have hlen := h.len
  have hn0 : ¬ x.tab.length = 0 := by omega
  have rI := rowI_is hb
  unfold rowL at rI
  simp only [unI_nil] at rI
  have hix := h.idx
  have i1 : -9223372036854775808 ≤ x.idx.lo ∧ x.idx.lo ≤ 9223372036854775807 := by omega
  have i2 : -9223372036854775808 ≤ x.idx.hi ∧ x.idx.hi ≤ 9223372036854775807 := by omega
  have ei : Span.mk x.idx.lo x.idx.hi = x.idx := rfl
  refine pcalls_by Try.mixes spOc1_ok (fn := Try.f34) Try.func34 rfl (by kernel_rfl) (by show 2 ≤ _; decide) ?_
  rcases hb with ⟨rfl, hbn⟩ | ⟨g, rfl⟩
  · have hTC : ∀ d n, tCh [] d n = tCh bits d n := by rw [hbn]; exact fun _ _ => rfl
    simp (decide := true) (maxSteps := 4000000) only [go_sem, Nat.reduceAdd, Nat.reduceSub, Nat.reduceMul, Nat.reduceDiv, Nat.reduceMod, Nat.reduceLT, Nat.reduceLeDiff, Nat.reduceEqDiff, Nat.reduceBEq, Nat.reduceBNe, Nat.reduceGT, Int.reduceAdd, Int.reduceSub, Int.reduceMul, Int.reduceNeg, Int.reduceLT, Int.reduceLE, Int.reduceEq, Int.reduceNe, Int.reduceBEq, Int.reduceBNe, Int.reduceToNat, Int.reduceGT, Int.reduceGE, ↓reduceIte, decide_true, decide_false, eq_self, Nat.mul_one, Nat.zero_mul, Nat.one_mul, Int.le_refl, Nat.le_refl, Int.cast_ofNat_Int, Try.f34, Sx.t, Sx.cs]
    refine pwpC_loopU (A := { k : Nat // k ≤ x.tab.length }) [2, 4, 5, 6] (fun k => [(7, .t (.int .i64 k.1))]) (fun k => [(3, .box [.t (.int .i64 x.step), .own ((tTab x bits k.1).flatMap Span.cs) k.1 4, .t (.int .i64 0), .t (.int .i64 0), .t (.int .i64 x.wrong), .t .nilSl]), (4, .tok k.1 24)]) (fun k => x.tab.length - k.1) ⟨0, by omega⟩ (by decide) (fun _ => by rfl) ?_ fun Q1 hQ1 ⟨k, hk⟩ I1 hI1 => ?_
    · simp (decide := true) (maxSteps := 4000000) only [go_sem, Nat.reduceAdd, Nat.reduceSub, Nat.reduceMul, Nat.reduceDiv, Nat.reduceMod, Nat.reduceLT, Nat.reduceLeDiff, Nat.reduceEqDiff, Nat.reduceBEq, Nat.reduceBNe, Nat.reduceGT, Int.reduceAdd, Int.reduceSub, Int.reduceMul, Int.reduceNeg, Int.reduceLT, Int.reduceLE, Int.reduceEq, Int.reduceNe, Int.reduceBEq, Int.reduceBNe, Int.reduceToNat, Int.reduceGT, Int.reduceGE, ↓reduceIte, decide_true, decide_false, eq_self, Nat.mul_one, Nat.zero_mul, Nat.one_mul, Int.le_refl, Nat.le_refl, Int.cast_ofNat_Int, tTab, List.range_zero, List.map_nil]
    · by_cases hlt : (k : Int) < x.tab.length
      · have hkl : k < x.tab.length := by omega
        obtain ⟨t, ht⟩ := get_lt hlt
        have hd := flat_at Span.cs (n := 2) (fun _ => rfl) ht
        have het := atS_eq ht
        have htb := h.tab t (List.mem_of_getElem? ht)
        have hc1 : IntKind.i64.wrap (k + 1) = ((k + 1 : Nat) : Int) := by rw [wrap_in (by omega) (by omega)]; omega
        have b1 : -9223372036854775808 ≤ t.lo ∧ t.lo ≤ 9223372036854775807 := by omega
        have b2 : -9223372036854775808 ≤ t.hi ∧ t.hi ≤ 9223372036854775807 := by omega
        have et : Span.mk t.lo t.hi = t := rfl
        have hfl : ∀ bb, (List.flatMap Span.cs (tTab x bb k)).length = k * 2 := fun bb => by rw [flat_len Span.cs (n := 2) (fun _ => rfl), tTab_len]
        have hr : (k + 1) * 16 ≤ 140737488355328 := by omega
        have hnx := fun bb => tTab_succ x bb k
        rw [het] at hnx
        simp (decide := true) (maxSteps := 4000000) only [go_sem, Nat.reduceAdd, Nat.reduceSub, Nat.reduceMul, Nat.reduceDiv, Nat.reduceMod, Nat.reduceLT, Nat.reduceLeDiff, Nat.reduceEqDiff, Nat.reduceBEq, Nat.reduceBNe, Nat.reduceGT, Int.reduceAdd, Int.reduceSub, Int.reduceMul, Int.reduceNeg, Int.reduceLT, Int.reduceLE, Int.reduceEq, Int.reduceNe, Int.reduceBEq, Int.reduceBNe, Int.reduceToNat, Int.reduceGT, Int.reduceGE, ↓reduceIte, decide_true, decide_false, eq_self, Nat.mul_one, Nat.zero_mul, Nat.one_mul, Int.le_refl, Nat.le_refl, Int.cast_ofNat_Int, hlt, hd, Span.cs, Span.t, Sx.cs, lb, b1, b2, et, hfl, hr, Int.toNat_natCast, unI_nil, unI_ic, List.length_nil, hTC]
        refine hI1 _ ⟨k + 1, by omega⟩ (by simp only; omega) ?_
        simp (decide := true) (maxSteps := 4000000) only [go_sem, Nat.reduceAdd, Nat.reduceSub, Nat.reduceMul, Nat.reduceDiv, Nat.reduceMod, Nat.reduceLT, Nat.reduceLeDiff, Nat.reduceEqDiff, Nat.reduceBEq, Nat.reduceBNe, Nat.reduceGT, Int.reduceAdd, Int.reduceSub, Int.reduceMul, Int.reduceNeg, Int.reduceLT, Int.reduceLE, Int.reduceEq, Int.reduceNe, Int.reduceBEq, Int.reduceBNe, Int.reduceToNat, Int.reduceGT, Int.reduceGE, ↓reduceIte, decide_true, decide_false, eq_self, Nat.mul_one, Nat.zero_mul, Nat.one_mul, Int.le_refl, Nat.le_refl, Int.cast_ofNat_Int, hc1, hnx, List.flatMap_append, Span.cs, Sx.cs]
      · have hke : k = x.tab.length := by omega
        subst hke
        simp (decide := true) (maxSteps := 4000000) only [go_sem, Nat.reduceAdd, Nat.reduceSub, Nat.reduceMul, Nat.reduceDiv, Nat.reduceMod, Nat.reduceLT, Nat.reduceLeDiff, Nat.reduceEqDiff, Nat.reduceBEq, Nat.reduceBNe, Nat.reduceGT, Int.reduceAdd, Int.reduceSub, Int.reduceMul, Int.reduceNeg, Int.reduceLT, Int.reduceLE, Int.reduceEq, Int.reduceNe, Int.reduceBEq, Int.reduceBNe, Int.reduceToNat, Int.reduceGT, Int.reduceGE, ↓reduceIte, decide_true, decide_false, eq_self, Nat.mul_one, Nat.zero_mul, Nat.one_mul, Int.le_refl, Nat.le_refl, Int.cast_ofNat_Int, hlt]
        refine hQ1 _ _ ?_
        simp (decide := true) (maxSteps := 4000000) only [go_sem, Nat.reduceAdd, Nat.reduceSub, Nat.reduceMul, Nat.reduceDiv, Nat.reduceMod, Nat.reduceLT, Nat.reduceLeDiff, Nat.reduceEqDiff, Nat.reduceBEq, Nat.reduceBNe, Nat.reduceGT, Int.reduceAdd, Int.reduceSub, Int.reduceMul, Int.reduceNeg, Int.reduceLT, Int.reduceLE, Int.reduceEq, Int.reduceNe, Int.reduceBEq, Int.reduceBNe, Int.reduceToNat, Int.reduceGT, Int.reduceGE, ↓reduceIte, decide_true, decide_false, eq_self, Nat.mul_one, Nat.zero_mul, Nat.one_mul, Int.le_refl, Nat.le_refl, Int.cast_ofNat_Int]
        refine pwpC_loopU (A := { k : Nat // k ≤ x.shade.length }) [2, 4, 5, 6] (fun k => [(8, .t (.int .i64 k.1))]) (fun k => [(3, .box [.t (.int .i64 x.step), .own ((tTab x bits x.tab.length).flatMap Span.cs) x.tab.length 4, .t (.int .i64 0), .t (.int .i64 0), .t (.int .i64 x.wrong), .own ((tSh x bits k.1).flatMap Span.cs) k.1 5]), (5, .tok k.1 24)]) (fun k => x.shade.length - k.1) ⟨0, by omega⟩ (by decide) (fun _ => by rfl) ?_ fun Q2 hQ2 ⟨k, hk⟩ I2 hI2 => ?_
        · simp (decide := true) (maxSteps := 4000000) only [go_sem, Nat.reduceAdd, Nat.reduceSub, Nat.reduceMul, Nat.reduceDiv, Nat.reduceMod, Nat.reduceLT, Nat.reduceLeDiff, Nat.reduceEqDiff, Nat.reduceBEq, Nat.reduceBNe, Nat.reduceGT, Int.reduceAdd, Int.reduceSub, Int.reduceMul, Int.reduceNeg, Int.reduceLT, Int.reduceLE, Int.reduceEq, Int.reduceNe, Int.reduceBEq, Int.reduceBNe, Int.reduceToNat, Int.reduceGT, Int.reduceGE, ↓reduceIte, decide_true, decide_false, eq_self, Nat.mul_one, Nat.zero_mul, Nat.one_mul, Int.le_refl, Nat.le_refl, Int.cast_ofNat_Int, tSh, List.range_zero, List.map_nil]
        · by_cases hlt2 : (k : Int) < x.shade.length
          · have hkl : k < x.shade.length := by omega
            have h6 := h.sh
            obtain ⟨gs, rfl⟩ := hS.ne (by omega)
            obtain ⟨t, ht⟩ := get_lt hlt2
            have hd := flat_at Span.cs (n := 2) (fun _ => rfl) ht
            have het := atS_eq ht
            have htb := h.shade t (List.mem_of_getElem? ht)
            have hc1 : IntKind.i64.wrap (k + 1) = ((k + 1 : Nat) : Int) := by rw [wrap_in (by omega) (by omega)]; omega
            have w1 : IntKind.i64.wrap (2 * (k : Int)) = 2 * (k : Int) := wrap_in (by omega) (by omega)
            have w2 : IntKind.i64.wrap (2 * (k : Int) + 1) = 2 * (k : Int) + 1 := wrap_in (by omega) (by omega)
            have b1 : -9223372036854775808 ≤ t.lo ∧ t.lo ≤ 9223372036854775807 := by omega
            have b2 : -9223372036854775808 ≤ t.hi ∧ t.hi ≤ 9223372036854775807 := by omega
            have et : Span.mk t.lo t.hi = t := rfl
            have hfl : (List.flatMap Span.cs (tSh x bits k)).length = k * 2 := by rw [flat_len Span.cs (n := 2) (fun _ => rfl), tSh_len]
            have hr : (k + 1) * 16 ≤ 140737488355328 := by omega
            have hnx := tSh_succ x bits k
            rw [het] at hnx
            simp (decide := true) (maxSteps := 4000000) only [go_sem, Nat.reduceAdd, Nat.reduceSub, Nat.reduceMul, Nat.reduceDiv, Nat.reduceMod, Nat.reduceLT, Nat.reduceLeDiff, Nat.reduceEqDiff, Nat.reduceBEq, Nat.reduceBNe, Nat.reduceGT, Int.reduceAdd, Int.reduceSub, Int.reduceMul, Int.reduceNeg, Int.reduceLT, Int.reduceLE, Int.reduceEq, Int.reduceNe, Int.reduceBEq, Int.reduceBNe, Int.reduceToNat, Int.reduceGT, Int.reduceGE, ↓reduceIte, decide_true, decide_false, eq_self, Nat.mul_one, Nat.zero_mul, Nat.one_mul, Int.le_refl, Nat.le_refl, Int.cast_ofNat_Int, hlt2, hd, Span.cs, Span.t, Sx.cs, lb, b1, b2, w1, w2, et, hfl, hr, Int.toNat_natCast, unI_nil, unI_ic, List.length_nil, hTC]
            refine hI2 _ ⟨k + 1, by omega⟩ (by simp only; omega) ?_
            simp (decide := true) (maxSteps := 4000000) only [go_sem, Nat.reduceAdd, Nat.reduceSub, Nat.reduceMul, Nat.reduceDiv, Nat.reduceMod, Nat.reduceLT, Nat.reduceLeDiff, Nat.reduceEqDiff, Nat.reduceBEq, Nat.reduceBNe, Nat.reduceGT, Int.reduceAdd, Int.reduceSub, Int.reduceMul, Int.reduceNeg, Int.reduceLT, Int.reduceLE, Int.reduceEq, Int.reduceNe, Int.reduceBEq, Int.reduceBNe, Int.reduceToNat, Int.reduceGT, Int.reduceGE, ↓reduceIte, decide_true, decide_false, eq_self, Nat.mul_one, Nat.zero_mul, Nat.one_mul, Int.le_refl, Nat.le_refl, Int.cast_ofNat_Int, hc1, hnx, List.flatMap_append, Span.cs, Sx.cs]
          · have hke : k = x.shade.length := by omega
            subst hke
            have etx : truthX x bits = ⟨x.step, tTab x bits x.tab.length, tCh bits x.idx 7, x.wrong, tSh x bits x.shade.length⟩ := rfl
            obtain ⟨CI, hCI⟩ : ∃ CI, tCh bits x.idx 7 = CI := ⟨_, rfl⟩
            rcases hS with ⟨rfl, hS0⟩ | ⟨gs, rfl⟩
            · have hz : x.shade.length = 0 := by rw [hS0]; rfl
              simp (decide := true) (maxSteps := 4000000) only [go_sem, Nat.reduceAdd, Nat.reduceSub, Nat.reduceMul, Nat.reduceDiv, Nat.reduceMod, Nat.reduceLT, Nat.reduceLeDiff, Nat.reduceEqDiff, Nat.reduceBEq, Nat.reduceBNe, Nat.reduceGT, Int.reduceAdd, Int.reduceSub, Int.reduceMul, Int.reduceNeg, Int.reduceLT, Int.reduceLE, Int.reduceEq, Int.reduceNe, Int.reduceBEq, Int.reduceBNe, Int.reduceToNat, Int.reduceGT, Int.reduceGE, ↓reduceIte, decide_true, decide_false, eq_self, Nat.mul_one, Nat.zero_mul, Nat.one_mul, Int.le_refl, Nat.le_refl, Int.cast_ofNat_Int, hz]
              refine hQ2 _ _ ?_
              simp (decide := true) (maxSteps := 4000000) only [go_sem, Nat.reduceAdd, Nat.reduceSub, Nat.reduceMul, Nat.reduceDiv, Nat.reduceMod, Nat.reduceLT, Nat.reduceLeDiff, Nat.reduceEqDiff, Nat.reduceBEq, Nat.reduceBNe, Nat.reduceGT, Int.reduceAdd, Int.reduceSub, Int.reduceMul, Int.reduceNeg, Int.reduceLT, Int.reduceLE, Int.reduceEq, Int.reduceNe, Int.reduceBEq, Int.reduceBNe, Int.reduceToNat, Int.reduceGT, Int.reduceGE, ↓reduceIte, decide_true, decide_false, eq_self, Nat.mul_one, Nat.zero_mul, Nat.one_mul, Int.le_refl, Nat.le_refl, Int.cast_ofNat_Int, hz, lb, i1, i2, ei, unI_nil, unI_ic, List.length_nil, hTC, etx, hCI, hn0, rowO, tTab_len, tSh_len, Span.t, Span.cs, Sx.t, Sx.cs]
            · simp (decide := true) (maxSteps := 4000000) only [go_sem, Nat.reduceAdd, Nat.reduceSub, Nat.reduceMul, Nat.reduceDiv, Nat.reduceMod, Nat.reduceLT, Nat.reduceLeDiff, Nat.reduceEqDiff, Nat.reduceBEq, Nat.reduceBNe, Nat.reduceGT, Int.reduceAdd, Int.reduceSub, Int.reduceMul, Int.reduceNeg, Int.reduceLT, Int.reduceLE, Int.reduceEq, Int.reduceNe, Int.reduceBEq, Int.reduceBNe, Int.reduceToNat, Int.reduceGT, Int.reduceGE, ↓reduceIte, decide_true, decide_false, eq_self, Nat.mul_one, Nat.zero_mul, Nat.one_mul, Int.le_refl, Nat.le_refl, Int.cast_ofNat_Int, hlt2]
              refine hQ2 _ _ ?_
              simp (decide := true) (maxSteps := 4000000) only [go_sem, Nat.reduceAdd, Nat.reduceSub, Nat.reduceMul, Nat.reduceDiv, Nat.reduceMod, Nat.reduceLT, Nat.reduceLeDiff, Nat.reduceEqDiff, Nat.reduceBEq, Nat.reduceBNe, Nat.reduceGT, Int.reduceAdd, Int.reduceSub, Int.reduceMul, Int.reduceNeg, Int.reduceLT, Int.reduceLE, Int.reduceEq, Int.reduceNe, Int.reduceBEq, Int.reduceBNe, Int.reduceToNat, Int.reduceGT, Int.reduceGE, ↓reduceIte, decide_true, decide_false, eq_self, Nat.mul_one, Nat.zero_mul, Nat.one_mul, Int.le_refl, Nat.le_refl, Int.cast_ofNat_Int, lb, i1, i2, ei, unI_nil, unI_ic, List.length_nil, hTC, etx, hCI, hn0, rowO, tTab_len, tSh_len, Span.t, Span.cs, Sx.t, Sx.cs]
  · have hTC : True := trivial
    simp (decide := true) (maxSteps := 4000000) only [go_sem, Nat.reduceAdd, Nat.reduceSub, Nat.reduceMul, Nat.reduceDiv, Nat.reduceMod, Nat.reduceLT, Nat.reduceLeDiff, Nat.reduceEqDiff, Nat.reduceBEq, Nat.reduceBNe, Nat.reduceGT, Int.reduceAdd, Int.reduceSub, Int.reduceMul, Int.reduceNeg, Int.reduceLT, Int.reduceLE, Int.reduceEq, Int.reduceNe, Int.reduceBEq, Int.reduceBNe, Int.reduceToNat, Int.reduceGT, Int.reduceGE, ↓reduceIte, decide_true, decide_false, eq_self, Nat.mul_one, Nat.zero_mul, Nat.one_mul, Int.le_refl, Nat.le_refl, Int.cast_ofNat_Int, Try.f34, Sx.t, Sx.cs]
    refine pwpC_loopU (A := { k : Nat // k ≤ x.tab.length }) [2, 4, 5, 6] (fun k => [(7, .t (.int .i64 k.1))]) (fun k => [(3, .box [.t (.int .i64 x.step), .own ((tTab x bits k.1).flatMap Span.cs) k.1 4, .t (.int .i64 0), .t (.int .i64 0), .t (.int .i64 x.wrong), .t .nilSl]), (4, .tok k.1 24)]) (fun k => x.tab.length - k.1) ⟨0, by omega⟩ (by decide) (fun _ => by rfl) ?_ fun Q1 hQ1 ⟨k, hk⟩ I1 hI1 => ?_
    · simp (decide := true) (maxSteps := 4000000) only [go_sem, Nat.reduceAdd, Nat.reduceSub, Nat.reduceMul, Nat.reduceDiv, Nat.reduceMod, Nat.reduceLT, Nat.reduceLeDiff, Nat.reduceEqDiff, Nat.reduceBEq, Nat.reduceBNe, Nat.reduceGT, Int.reduceAdd, Int.reduceSub, Int.reduceMul, Int.reduceNeg, Int.reduceLT, Int.reduceLE, Int.reduceEq, Int.reduceNe, Int.reduceBEq, Int.reduceBNe, Int.reduceToNat, Int.reduceGT, Int.reduceGE, ↓reduceIte, decide_true, decide_false, eq_self, Nat.mul_one, Nat.zero_mul, Nat.one_mul, Int.le_refl, Nat.le_refl, Int.cast_ofNat_Int, tTab, List.range_zero, List.map_nil]
    · by_cases hlt : (k : Int) < x.tab.length
      · have hkl : k < x.tab.length := by omega
        obtain ⟨t, ht⟩ := get_lt hlt
        have hd := flat_at Span.cs (n := 2) (fun _ => rfl) ht
        have het := atS_eq ht
        have htb := h.tab t (List.mem_of_getElem? ht)
        have hc1 : IntKind.i64.wrap (k + 1) = ((k + 1 : Nat) : Int) := by rw [wrap_in (by omega) (by omega)]; omega
        have b1 : -9223372036854775808 ≤ t.lo ∧ t.lo ≤ 9223372036854775807 := by omega
        have b2 : -9223372036854775808 ≤ t.hi ∧ t.hi ≤ 9223372036854775807 := by omega
        have et : Span.mk t.lo t.hi = t := rfl
        have hfl : ∀ bb, (List.flatMap Span.cs (tTab x bb k)).length = k * 2 := fun bb => by rw [flat_len Span.cs (n := 2) (fun _ => rfl), tTab_len]
        have hr : (k + 1) * 16 ≤ 140737488355328 := by omega
        have hnx := fun bb => tTab_succ x bb k
        rw [het] at hnx
        simp (decide := true) (maxSteps := 4000000) only [go_sem, Nat.reduceAdd, Nat.reduceSub, Nat.reduceMul, Nat.reduceDiv, Nat.reduceMod, Nat.reduceLT, Nat.reduceLeDiff, Nat.reduceEqDiff, Nat.reduceBEq, Nat.reduceBNe, Nat.reduceGT, Int.reduceAdd, Int.reduceSub, Int.reduceMul, Int.reduceNeg, Int.reduceLT, Int.reduceLE, Int.reduceEq, Int.reduceNe, Int.reduceBEq, Int.reduceBNe, Int.reduceToNat, Int.reduceGT, Int.reduceGE, ↓reduceIte, decide_true, decide_false, eq_self, Nat.mul_one, Nat.zero_mul, Nat.one_mul, Int.le_refl, Nat.le_refl, Int.cast_ofNat_Int, hlt, hd, Span.cs, Span.t, Sx.cs, lb, b1, b2, et, hfl, hr, Int.toNat_natCast, unI_nil, unI_ic, List.length_nil, hTC]
        refine hI1 _ ⟨k + 1, by omega⟩ (by simp only; omega) ?_
        simp (decide := true) (maxSteps := 4000000) only [go_sem, Nat.reduceAdd, Nat.reduceSub, Nat.reduceMul, Nat.reduceDiv, Nat.reduceMod, Nat.reduceLT, Nat.reduceLeDiff, Nat.reduceEqDiff, Nat.reduceBEq, Nat.reduceBNe, Nat.reduceGT, Int.reduceAdd, Int.reduceSub, Int.reduceMul, Int.reduceNeg, Int.reduceLT, Int.reduceLE, Int.reduceEq, Int.reduceNe, Int.reduceBEq, Int.reduceBNe, Int.reduceToNat, Int.reduceGT, Int.reduceGE, ↓reduceIte, decide_true, decide_false, eq_self, Nat.mul_one, Nat.zero_mul, Nat.one_mul, Int.le_refl, Nat.le_refl, Int.cast_ofNat_Int, hc1, hnx, List.flatMap_append, Span.cs, Sx.cs]
      · have hke : k = x.tab.length := by omega
        subst hke
        simp (decide := true) (maxSteps := 4000000) only [go_sem, Nat.reduceAdd, Nat.reduceSub, Nat.reduceMul, Nat.reduceDiv, Nat.reduceMod, Nat.reduceLT, Nat.reduceLeDiff, Nat.reduceEqDiff, Nat.reduceBEq, Nat.reduceBNe, Nat.reduceGT, Int.reduceAdd, Int.reduceSub, Int.reduceMul, Int.reduceNeg, Int.reduceLT, Int.reduceLE, Int.reduceEq, Int.reduceNe, Int.reduceBEq, Int.reduceBNe, Int.reduceToNat, Int.reduceGT, Int.reduceGE, ↓reduceIte, decide_true, decide_false, eq_self, Nat.mul_one, Nat.zero_mul, Nat.one_mul, Int.le_refl, Nat.le_refl, Int.cast_ofNat_Int, hlt]
        refine hQ1 _ _ ?_
        simp (decide := true) (maxSteps := 4000000) only [go_sem, Nat.reduceAdd, Nat.reduceSub, Nat.reduceMul, Nat.reduceDiv, Nat.reduceMod, Nat.reduceLT, Nat.reduceLeDiff, Nat.reduceEqDiff, Nat.reduceBEq, Nat.reduceBNe, Nat.reduceGT, Int.reduceAdd, Int.reduceSub, Int.reduceMul, Int.reduceNeg, Int.reduceLT, Int.reduceLE, Int.reduceEq, Int.reduceNe, Int.reduceBEq, Int.reduceBNe, Int.reduceToNat, Int.reduceGT, Int.reduceGE, ↓reduceIte, decide_true, decide_false, eq_self, Nat.mul_one, Nat.zero_mul, Nat.one_mul, Int.le_refl, Nat.le_refl, Int.cast_ofNat_Int]
        refine pwpC_loopU (A := { k : Nat // k ≤ x.shade.length }) [2, 4, 5, 6] (fun k => [(8, .t (.int .i64 k.1))]) (fun k => [(3, .box [.t (.int .i64 x.step), .own ((tTab x bits x.tab.length).flatMap Span.cs) x.tab.length 4, .t (.int .i64 0), .t (.int .i64 0), .t (.int .i64 x.wrong), .own ((tSh x bits k.1).flatMap Span.cs) k.1 5]), (5, .tok k.1 24)]) (fun k => x.shade.length - k.1) ⟨0, by omega⟩ (by decide) (fun _ => by rfl) ?_ fun Q2 hQ2 ⟨k, hk⟩ I2 hI2 => ?_
        · simp (decide := true) (maxSteps := 4000000) only [go_sem, Nat.reduceAdd, Nat.reduceSub, Nat.reduceMul, Nat.reduceDiv, Nat.reduceMod, Nat.reduceLT, Nat.reduceLeDiff, Nat.reduceEqDiff, Nat.reduceBEq, Nat.reduceBNe, Nat.reduceGT, Int.reduceAdd, Int.reduceSub, Int.reduceMul, Int.reduceNeg, Int.reduceLT, Int.reduceLE, Int.reduceEq, Int.reduceNe, Int.reduceBEq, Int.reduceBNe, Int.reduceToNat, Int.reduceGT, Int.reduceGE, ↓reduceIte, decide_true, decide_false, eq_self, Nat.mul_one, Nat.zero_mul, Nat.one_mul, Int.le_refl, Nat.le_refl, Int.cast_ofNat_Int, tSh, List.range_zero, List.map_nil]
        · by_cases hlt2 : (k : Int) < x.shade.length
          · have hkl : k < x.shade.length := by omega
            have h6 := h.sh
            obtain ⟨gs, rfl⟩ := hS.ne (by omega)
            obtain ⟨t, ht⟩ := get_lt hlt2
            have hd := flat_at Span.cs (n := 2) (fun _ => rfl) ht
            have het := atS_eq ht
            have htb := h.shade t (List.mem_of_getElem? ht)
            have hc1 : IntKind.i64.wrap (k + 1) = ((k + 1 : Nat) : Int) := by rw [wrap_in (by omega) (by omega)]; omega
            have w1 : IntKind.i64.wrap (2 * (k : Int)) = 2 * (k : Int) := wrap_in (by omega) (by omega)
            have w2 : IntKind.i64.wrap (2 * (k : Int) + 1) = 2 * (k : Int) + 1 := wrap_in (by omega) (by omega)
            have b1 : -9223372036854775808 ≤ t.lo ∧ t.lo ≤ 9223372036854775807 := by omega
            have b2 : -9223372036854775808 ≤ t.hi ∧ t.hi ≤ 9223372036854775807 := by omega
            have et : Span.mk t.lo t.hi = t := rfl
            have hfl : (List.flatMap Span.cs (tSh x bits k)).length = k * 2 := by rw [flat_len Span.cs (n := 2) (fun _ => rfl), tSh_len]
            have hr : (k + 1) * 16 ≤ 140737488355328 := by omega
            have hnx := tSh_succ x bits k
            rw [het] at hnx
            simp (decide := true) (maxSteps := 4000000) only [go_sem, Nat.reduceAdd, Nat.reduceSub, Nat.reduceMul, Nat.reduceDiv, Nat.reduceMod, Nat.reduceLT, Nat.reduceLeDiff, Nat.reduceEqDiff, Nat.reduceBEq, Nat.reduceBNe, Nat.reduceGT, Int.reduceAdd, Int.reduceSub, Int.reduceMul, Int.reduceNeg, Int.reduceLT, Int.reduceLE, Int.reduceEq, Int.reduceNe, Int.reduceBEq, Int.reduceBNe, Int.reduceToNat, Int.reduceGT, Int.reduceGE, ↓reduceIte, decide_true, decide_false, eq_self, Nat.mul_one, Nat.zero_mul, Nat.one_mul, Int.le_refl, Nat.le_refl, Int.cast_ofNat_Int, hlt2, hd, Span.cs, Span.t, Sx.cs, lb, b1, b2, w1, w2, et, hfl, hr, Int.toNat_natCast, unI_nil, unI_ic, List.length_nil, hTC]
            refine hI2 _ ⟨k + 1, by omega⟩ (by simp only; omega) ?_
            simp (decide := true) (maxSteps := 4000000) only [go_sem, Nat.reduceAdd, Nat.reduceSub, Nat.reduceMul, Nat.reduceDiv, Nat.reduceMod, Nat.reduceLT, Nat.reduceLeDiff, Nat.reduceEqDiff, Nat.reduceBEq, Nat.reduceBNe, Nat.reduceGT, Int.reduceAdd, Int.reduceSub, Int.reduceMul, Int.reduceNeg, Int.reduceLT, Int.reduceLE, Int.reduceEq, Int.reduceNe, Int.reduceBEq, Int.reduceBNe, Int.reduceToNat, Int.reduceGT, Int.reduceGE, ↓reduceIte, decide_true, decide_false, eq_self, Nat.mul_one, Nat.zero_mul, Nat.one_mul, Int.le_refl, Nat.le_refl, Int.cast_ofNat_Int, hc1, hnx, List.flatMap_append, Span.cs, Sx.cs]
          · have hke : k = x.shade.length := by omega
            subst hke
            have etx : truthX x bits = ⟨x.step, tTab x bits x.tab.length, tCh bits x.idx 7, x.wrong, tSh x bits x.shade.length⟩ := rfl
            obtain ⟨CI, hCI⟩ : ∃ CI, tCh bits x.idx 7 = CI := ⟨_, rfl⟩
            rcases hS with ⟨rfl, hS0⟩ | ⟨gs, rfl⟩
            · have hz : x.shade.length = 0 := by rw [hS0]; rfl
              simp (decide := true) (maxSteps := 4000000) only [go_sem, Nat.reduceAdd, Nat.reduceSub, Nat.reduceMul, Nat.reduceDiv, Nat.reduceMod, Nat.reduceLT, Nat.reduceLeDiff, Nat.reduceEqDiff, Nat.reduceBEq, Nat.reduceBNe, Nat.reduceGT, Int.reduceAdd, Int.reduceSub, Int.reduceMul, Int.reduceNeg, Int.reduceLT, Int.reduceLE, Int.reduceEq, Int.reduceNe, Int.reduceBEq, Int.reduceBNe, Int.reduceToNat, Int.reduceGT, Int.reduceGE, ↓reduceIte, decide_true, decide_false, eq_self, Nat.mul_one, Nat.zero_mul, Nat.one_mul, Int.le_refl, Nat.le_refl, Int.cast_ofNat_Int, hz]
              refine hQ2 _ _ ?_
              simp (decide := true) (maxSteps := 4000000) only [go_sem, Nat.reduceAdd, Nat.reduceSub, Nat.reduceMul, Nat.reduceDiv, Nat.reduceMod, Nat.reduceLT, Nat.reduceLeDiff, Nat.reduceEqDiff, Nat.reduceBEq, Nat.reduceBNe, Nat.reduceGT, Int.reduceAdd, Int.reduceSub, Int.reduceMul, Int.reduceNeg, Int.reduceLT, Int.reduceLE, Int.reduceEq, Int.reduceNe, Int.reduceBEq, Int.reduceBNe, Int.reduceToNat, Int.reduceGT, Int.reduceGE, ↓reduceIte, decide_true, decide_false, eq_self, Nat.mul_one, Nat.zero_mul, Nat.one_mul, Int.le_refl, Nat.le_refl, Int.cast_ofNat_Int, hz, lb, i1, i2, ei, unI_nil, unI_ic, List.length_nil, hTC, etx, hCI, hn0, rowO, tTab_len, tSh_len, Span.t, Span.cs, Sx.t, Sx.cs]
            · simp (decide := true) (maxSteps := 4000000) only [go_sem, Nat.reduceAdd, Nat.reduceSub, Nat.reduceMul, Nat.reduceDiv, Nat.reduceMod, Nat.reduceLT, Nat.reduceLeDiff, Nat.reduceEqDiff, Nat.reduceBEq, Nat.reduceBNe, Nat.reduceGT, Int.reduceAdd, Int.reduceSub, Int.reduceMul, Int.reduceNeg, Int.reduceLT, Int.reduceLE, Int.reduceEq, Int.reduceNe, Int.reduceBEq, Int.reduceBNe, Int.reduceToNat, Int.reduceGT, Int.reduceGE, ↓reduceIte, decide_true, decide_false, eq_self, Nat.mul_one, Nat.zero_mul, Nat.one_mul, Int.le_refl, Nat.le_refl, Int.cast_ofNat_Int, hlt2]
              refine hQ2 _ _ ?_
              simp (decide := true) (maxSteps := 4000000) only [go_sem, Nat.reduceAdd, Nat.reduceSub, Nat.reduceMul, Nat.reduceDiv, Nat.reduceMod, Nat.reduceLT, Nat.reduceLeDiff, Nat.reduceEqDiff, Nat.reduceBEq, Nat.reduceBNe, Nat.reduceGT, Int.reduceAdd, Int.reduceSub, Int.reduceMul, Int.reduceNeg, Int.reduceLT, Int.reduceLE, Int.reduceEq, Int.reduceNe, Int.reduceBEq, Int.reduceBNe, Int.reduceToNat, Int.reduceGT, Int.reduceGE, ↓reduceIte, decide_true, decide_false, eq_self, Nat.mul_one, Nat.zero_mul, Nat.one_mul, Int.le_refl, Nat.le_refl, Int.cast_ofNat_Int, lb, i1, i2, ei, unI_nil, unI_ic, List.length_nil, hTC, etx, hCI, hn0, rowO, tTab_len, tSh_len, Span.t, Span.cs, Sx.t, Sx.cs]
end Go.Proofs.Ytjmkccckohcfkaa

/- Part Oh. -/
namespace Go.Os
open Go Go.Pm Go.Oc Go.Oh
theorem readE_at {x : Sx} (h : GoodS x) {k : Nat} (hk : k < x.tab.length) : isRd x ((k : Int) * x.step) (2 ^ x.shade.length - 1) = true ∧ (readS x ((k : Int) * x.step) (2 ^ x.shade.length - 1 : Int).toNat).hi - (readS x ((k : Int) * x.step) (2 ^ x.shade.length - 1 : Int).toNat).lo = wid (atS x.tab k) + rest x := by
  obtain ⟨a1, a2, a3⟩ := at_b h hk
  have hp := pow_len h.sh
  refine ⟨isRd_iff.2 ⟨⟨a1, a2⟩, by omega, Int.le_refl _⟩, ?_⟩
  have e : (2 ^ x.shade.length - 1 : Int).toNat = allSh x := by
    have : ((2 ^ x.shade.length : Nat) : Int) = (2 : Int) ^ x.shade.length := by simp
    unfold allSh; omega
  rw [e]
  unfold readS rest wid
  rw [corr_at h hk]
  simp only [addS]; omega
theorem flt_le (x : Sx) : ∀ n k, k < n → wid (atS x.tab k) ≤ fltTo x n
  | 0, k, h => by omega
  | n + 1, k, h => by
    rw [fltTo_succ]
    by_cases e : k = n
    · subst e; omega
    · have := flt_le x n k (by omega); omega
theorem flt_met {x : Sx} (h : GoodS x) : ∀ n, 1 ≤ n → n ≤ x.tab.length → ∃ k, k < n ∧ wid (atS x.tab k) = fltTo x n
  | 0, h1, _ => by omega
  | n + 1, _, hn => by
    have ht := h.tab _ (atS_mem (show n < x.tab.length by omega))
    have hw : 0 ≤ wid (atS x.tab n) := by unfold wid; omega
    rw [fltTo_succ]
    rcases Nat.eq_zero_or_pos n with e | e
    · subst e
      refine ⟨0, by omega, ?_⟩
      simp only [fltTo, List.range_zero, List.foldl_nil]; omega
    · obtain ⟨k, hk, hw'⟩ := flt_met h n (by omega) (by omega)
      by_cases c : fltTo x n ≤ wid (atS x.tab n)
      · exact ⟨n, by omega, by omega⟩
      · exact ⟨k, by omega, by omega⟩
/-- Between two angles of the table no correction is wider than the wider one. -/
theorem corr_wid {x : Sx} (h : GoodS x) {a : Int} (h0 : 0 ≤ a) (h1 : a ≤ last x) : wid (corr x.step x.tab a) ≤ fltTo x x.tab.length := by
  have ht := rd_tab h h0 h1
  have w1 := flt_le x x.tab.length _ ht.kn
  unfold corr
  simp only
  split
  · exact w1
  · rename_i hd
    have w2 := flt_le x x.tab.length _ (ht.kd hd)
    have hs := h.st
    have d0 := ht.d0
    have d1 := ht.ds
    obtain ⟨W, hW⟩ : ∃ W, fltTo x x.tab.length = W := ⟨_, rfl⟩
    obtain ⟨A, hA⟩ : ∃ A, atS x.tab (a / x.step).toNat = A := ⟨_, rfl⟩
    obtain ⟨B, hB⟩ : ∃ B, atS x.tab ((a / x.step).toNat + 1) = B := ⟨_, rfl⟩
    obtain ⟨d, hd'⟩ : ∃ d, a % x.step = d := ⟨_, rfl⟩
    obtain ⟨st, hst⟩ : ∃ st, x.step = st := ⟨_, rfl⟩
    rw [hW, hA] at w1
    rw [hW, hB] at w2
    rw [hW, hA, hB]
    rw [hd'] at d0 d1 ⊢
    rw [hst] at hs d1 ⊢
    unfold wid at w1 w2 ⊢
    simp only
    have m1 := Int.mul_le_mul_of_nonneg_right (show A.hi ≤ A.lo + W by omega) (show 0 ≤ st - d by omega)
    have m2 := Int.mul_le_mul_of_nonneg_right (show B.hi ≤ B.lo + W by omega) d0
    have e1 : (A.lo + W) * (st - d) + (B.lo + W) * d = A.lo * (st - d) + B.lo * d + W * st := by
      rw [Int.add_mul, Int.add_mul]
      have : W * (st - d) + W * d = W * st := by rw [← Int.mul_add]; congr 1; omega
      omega
    have := Int.ediv_le_ediv (show 0 < st by omega) (show A.hi * (st - d) + B.hi * d ≤ A.lo * (st - d) + B.lo * d + W * st by omega)
    rw [Int.add_mul_ediv_right _ _ (show st ≠ 0 by omega)] at this
    omega
theorem sh_wid {x : Sx} (h : GoodS x) (set : Nat) : ∀ k, k ≤ x.shade.length → wid (shTo x set k) ≤ wid (shTo x (allSh x) k)
  | 0, _ => Int.le_refl _
  | k + 1, hk => by
    have ih := sh_wid h set k (by omega)
    have hs := h.shade _ (atS_mem (show k < x.shade.length by omega))
    have hb : (allSh x).testBit k = true := by
      unfold allSh; rw [Nat.testBit_two_pow_sub_one]; exact decide_eq_true (by omega)
    rw [shTo_succ, shTo_succ, hb, if_pos rfl]
    unfold wid at ih ⊢
    split <;> simp only [addS] <;> omega
/-- No reading leaves more than the fault. -/
theorem read_wid {x : Sx} (h : GoodS x) {a : Int} (h0 : 0 ≤ a) (h1 : a ≤ last x) (set : Nat) : (readS x a set).hi - (readS x a set).lo ≤ fault x := by
  have c := corr_wid h h0 h1
  have s := sh_wid h set x.shade.length (Nat.le_refl _)
  have e1 : wid (shTo x set x.shade.length) = (shs x set).hi - (shs x set).lo := rfl
  have e2 : wid (shTo x (allSh x) x.shade.length) = (shs x (allSh x)).hi - (shs x (allSh x)).lo := rfl
  rw [e1, e2] at s
  unfold fault rest
  unfold wid at c ⊢
  unfold readS
  simp only [addS]
  omega
theorem read_ge {x : Sx} (h : GoodS x) {a : Int} (h0 : 0 ≤ a) (h1 : a ≤ last x) (set : Nat) : -10000000 ≤ (readS x a set).lo ∧ (readS x a set).lo ≤ 10000000 ∧ -10000000 ≤ (readS x a set).hi ∧ (readS x a set).hi ≤ 10000000 := by
  have hb := corr_b (rd_tab h h0 h1) h.tab
  have hs := shs_b h set
  have hi := h.idx
  have hl := last_b h
  unfold readS; simp only [addS]; omega
theorem orN : ∀ a b : Bool, (a || !a && b) = (a || b) := by decide
def metB (x : Sx) (k : Nat) : Bool := (List.range k).any fun j => wid (atS x.tab j) == fltTo x x.tab.length
theorem metB_succ (x : Sx) (k : Nat) : metB x (k + 1) = (metB x k || (wid (atS x.tab k) == fltTo x x.tab.length)) := by unfold metB; rw [List.range_succ, List.any_append]; simp
theorem metB_all {x : Sx} (h : GoodS x) : metB x x.tab.length = true := by
  obtain ⟨k, hk, e⟩ := flt_met h x.tab.length (by have := h.len; omega) (Nat.le_refl _)
  unfold metB
  rw [List.any_eq_true]
  exact ⟨k, List.mem_range.2 hk, by rw [e]; simp⟩
end Go.Os
namespace Go.Proofs.Ytjmkccckohcfkaa
open Go.RowKit Go.Pm Go.Oc Go.Oh Go.Os
set_option maxRecDepth 100000
set_option linter.unusedVariables false
set_option maxHeartbeats 4000000

noncomputable def spOh : Pm.Spec := spO5.one 32 xoSound
@[go_sem] theorem spOh_p (f : FuncId) (xs : List TV) : spOh.p f xs = Pm.Spec.p (spO5.one 32 xoSound) f xs := rfl
@[go_sem] theorem spOh_h (f : FuncId) (ps : List PV) (hl : List PO) : spOh.h f ps hl = Pm.Spec.h (spO5.one 32 xoSound) f ps hl := rfl
@[go_sem] theorem spOh_fz (f : FuncId) : spOh.fz f = Pm.Spec.fz (spO5.one 32 xoSound) f := rfl
@[go_sem] theorem spOh_fr (f : FuncId) : spOh.fr f = Pm.Spec.fr (spO5.one 32 xoSound) f := rfl
@[go_sem] theorem spOh_mu (t : TypeId) : spOh.mu t = Pm.Spec.mu (spO5.one 32 xoSound) t := rfl
@[go_sem] theorem spOh_nf (t : TypeId) : spOh.nf t = Pm.Spec.nf (spO5.one 32 xoSound) t := rfl
theorem spOh_ok : SpecOk Try.prog spOh := Spec.one_ok xoSound_ok spO5_ok
theorem SextantGraded_c (x : Sx) {sT sS : TV} (hT : IsRow Span.cs sT x.tab) (hS : IsRow Span.cs sS x.shade) (lT : x.tab.length ≤ 9000000000000) (lS : x.shade.length ≤ 9000000000000) (a s : Int) : PCalls Try.prog 12 [x.t sT sS, .agg [.int .i64 a, .int .i64 s]] (.bool true) := by
  have rT := rowS_is hT
  have rS := rowS_is hS
  unfold rowL at rT rS
  simp only [unS_nil] at rT rS
  have e0 : Sx.mk x.step x.tab ⟨x.idx.lo, x.idx.hi⟩ x.wrong x.shade = x := rfl
  refine pcalls_by Try.mixes spOh_ok (fn := Try.f12) Try.func12 rfl (by kernel_rfl) (by show 2 ≤ _; decide) ?_
  cases hv : sxOk x with
  | false =>
    have hR : readP x a s = (⟨0, 0⟩, 50) := by unfold readP; rw [hv]; rfl
    have hC : classP x = (0, 0, 50) := by unfold classP; rw [hv]; rfl
    have b : ((50 : Int) != 0) = true := rfl
    simp (decide := true) (maxSteps := 4000000) only [go_sem, Nat.reduceAdd, Nat.reduceSub, Nat.reduceMul, Nat.reduceDiv, Nat.reduceMod, Nat.reduceLT, Nat.reduceLeDiff, Nat.reduceEqDiff, Nat.reduceBEq, Nat.reduceBNe, Nat.reduceGT, Int.reduceAdd, Int.reduceSub, Int.reduceMul, Int.reduceNeg, Int.reduceLT, Int.reduceLE, Int.reduceEq, Int.reduceNe, Int.reduceBEq, Int.reduceBNe, Int.reduceToNat, Int.reduceGT, Int.reduceGE, ↓reduceIte, decide_true, decide_false, eq_self, Nat.mul_one, Nat.zero_mul, Nat.one_mul, Int.le_refl, Nat.le_refl, Int.cast_ofNat_Int, Try.f12, Sx.t, Sx.cs, rT, rS, lT, lS, e0, hR, hC, hv, b, Span.t, Span.cs, Bool.true_or, beq_self_eq_true, Bool.and_self]
  | true =>
    have h := sxOk_iff.1 hv
    have h6 := h.sh
    have hp := pow_len h6
    have hlen := h.len
    obtain ⟨f, rfl⟩ := good_T h hT
    have rT := unS_eq x.tab
    have hC : classP x = (classOf (fault x), fault x, 0) := by unfold classP; rw [if_pos hv]
    have b : ((0 : Int) != 0) = false := rfl
    have b0 : ((0 : Int) == 0) = true := rfl
    have hfb := fltTo_b h x.tab.length (Nat.le_refl _)
    have hrb := rest_b h
    have hfa : fault x = fltTo x x.tab.length + rest x := rfl
    obtain ⟨P2, hP2⟩ : ∃ P2 : Int, (2 : Int) ^ x.shade.length = P2 := ⟨_, rfl⟩
    rw [hP2] at hp
    have hsh : IntKind.i64.wrap (1 * 2 ^ min x.shade.length 64) = P2 := by rw [Nat.min_eq_left (by omega), Int.one_mul, hP2, wrap_in (by omega) (by omega)]
    have w1 : IntKind.i64.wrap (P2 - 1) = P2 - 1 := wrap_in (by omega) (by omega)
    have hl0 : ¬ (x.shade.length : Int) < 0 := by omega
    obtain ⟨FA, hFA⟩ : ∃ FA, fault x = FA := ⟨_, rfl⟩
    have hlast : ((classOf FA == 1) == decide (FA ≤ 40)) = true ∧ ((classOf FA == 3) == decide (FA > 200)) = true ∧ inB (classOf FA) 1 3 = true := by
      unfold classOf
      by_cases c1 : FA ≤ 40
      · rw [if_pos c1, decide_eq_true c1, decide_eq_false (show ¬ FA > 200 by omega)]; decide
      · by_cases c2 : FA ≤ 200
        · rw [if_neg c1, if_pos c2, decide_eq_false c1, decide_eq_false (show ¬ FA > 200 by omega)]; decide
        · rw [if_neg c1, if_neg c2, decide_eq_false c1, decide_eq_true (show FA > 200 by omega)]; decide
    obtain ⟨CL, hCL⟩ : ∃ CL, classOf FA = CL := ⟨_, rfl⟩
    rw [hFA, hCL] at hC
    rw [hCL] at hlast
    obtain ⟨la1, la2, la3⟩ := hlast
    have hmet := metB_all h
    obtain ⟨R, hRR⟩ : ∃ R, readP x a s = R := ⟨_, rfl⟩
    have hcase : (R.2 == 0 && decide (IntKind.i64.wrap (R.1.hi - R.1.lo) > FA)) = false := by
      rw [← hRR]
      unfold readP
      rw [if_pos hv]
      cases hr : isRd x a s with
      | false => rfl
      | true =>
        obtain ⟨⟨ha0, ha1⟩, _⟩ := isRd_iff.1 hr
        have w := read_wid h ha0 ha1 s.toNat
        have g := read_ge h ha0 ha1 s.toNat
        simp only [if_true]
        rw [wrap_in (by omega) (by omega), decide_eq_false (by omega), Bool.and_false]
    simp (decide := true) (maxSteps := 4000000) only [go_sem, Nat.reduceAdd, Nat.reduceSub, Nat.reduceMul, Nat.reduceDiv, Nat.reduceMod, Nat.reduceLT, Nat.reduceLeDiff, Nat.reduceEqDiff, Nat.reduceBEq, Nat.reduceBNe, Nat.reduceGT, Int.reduceAdd, Int.reduceSub, Int.reduceMul, Int.reduceNeg, Int.reduceLT, Int.reduceLE, Int.reduceEq, Int.reduceNe, Int.reduceBEq, Int.reduceBNe, Int.reduceToNat, Int.reduceGT, Int.reduceGE, ↓reduceIte, decide_true, decide_false, eq_self, Nat.mul_one, Nat.zero_mul, Nat.one_mul, Int.le_refl, Nat.le_refl, Int.cast_ofNat_Int, Try.f12, Sx.t, Sx.cs, rT, rS, lT, lS, e0, hRR, hC, hv, b, b0, Span.t, Span.cs, Bool.false_or, Bool.not_true, hcase]
    refine pwpC_loopU (A := { k : Nat // k ≤ x.tab.length }) [2, 4, 5, 6] (fun k => [(11, .t (.int .i64 k.1)), (10, .t (.bool (metB x k.1)))]) (fun _ => []) (fun k => x.tab.length - k.1) ⟨0, by omega⟩ (by decide) (fun _ => by rfl) ?_ fun Q1 hQ1 ⟨k, hk⟩ I1 hI1 => ?_
    · simp (decide := true) (maxSteps := 4000000) only [go_sem, Nat.reduceAdd, Nat.reduceSub, Nat.reduceMul, Nat.reduceDiv, Nat.reduceMod, Nat.reduceLT, Nat.reduceLeDiff, Nat.reduceEqDiff, Nat.reduceBEq, Nat.reduceBNe, Nat.reduceGT, Int.reduceAdd, Int.reduceSub, Int.reduceMul, Int.reduceNeg, Int.reduceLT, Int.reduceLE, Int.reduceEq, Int.reduceNe, Int.reduceBEq, Int.reduceBNe, Int.reduceToNat, Int.reduceGT, Int.reduceGE, ↓reduceIte, decide_true, decide_false, eq_self, Nat.mul_one, Nat.zero_mul, Nat.one_mul, Int.le_refl, Nat.le_refl, Int.cast_ofNat_Int, metB, List.range_zero, List.any_nil]
    · by_cases hlt : (k : Int) < x.tab.length
      · have hkl : k < x.tab.length := by omega
        have hc1 : IntKind.i64.wrap (k + 1) = ((k + 1 : Nat) : Int) := by rw [wrap_in (by omega) (by omega)]; omega
        obtain ⟨a1, a2, a3⟩ := at_b h hkl
        have w2 : IntKind.i64.wrap ((k : Int) * x.step) = (k : Int) * x.step := wrap_in (by omega) (by omega)
        obtain ⟨r1, r2⟩ := readE_at h hkl
        rw [hP2] at r1 r2
        have hrp : readP x ((k : Int) * x.step) (P2 - 1) = (readS x ((k : Int) * x.step) (P2 - 1).toNat, 0) := by unfold readP; rw [if_pos hv, if_pos r1]
        obtain ⟨R', hR'⟩ : ∃ R, readS x ((k : Int) * x.step) (P2 - 1).toNat = R := ⟨_, rfl⟩
        rw [hR'] at hrp r2
        have htb := h.tab _ (atS_mem hkl)
        have hwf := flt_le x x.tab.length k hkl
        have w3 : IntKind.i64.wrap (R'.hi - R'.lo) = wid (atS x.tab k) + rest x := by rw [r2]; unfold wid; exact wrap_in (by omega) (by omega)
        have ngt : ¬ wid (atS x.tab k) + rest x > FA := by omega
        have heq : (wid (atS x.tab k) + rest x == FA) = (wid (atS x.tab k) == fltTo x x.tab.length) := by
          by_cases c : wid (atS x.tab k) = fltTo x x.tab.length
          · rw [beq_int_t c, beq_int_t (by omega)]
          · rw [beq_int_f c, beq_int_f (by omega)]
        have hnx := metB_succ x k
        obtain ⟨M, hM⟩ : ∃ M, metB x k = M := ⟨_, rfl⟩
        rw [hM] at hnx
        rcases hS with ⟨rfl, hS⟩ | ⟨g, rfl⟩
        · have e1 : P2 = 1 := by rw [← hP2, hS]; rfl
          rw [e1, show (1 : Int) - 1 = 0 from rfl] at hrp
          have w0 : IntKind.i64.wrap (1 * 2 ^ min 0 64) = 1 := rfl
          have w0' : IntKind.i64.wrap 0 = 0 := rfl
          have eS : Sx.mk x.step x.tab ⟨x.idx.lo, x.idx.hi⟩ x.wrong [] = x := by rw [show ([] : List Span) = x.shade from hS.symm]
          have lS0 : ([] : List Span).length ≤ 9000000000000 := by simp
          simp (decide := true) (maxSteps := 4000000) only [go_sem, Nat.reduceAdd, Nat.reduceSub, Nat.reduceMul, Nat.reduceDiv, Nat.reduceMod, Nat.reduceLT, Nat.reduceLeDiff, Nat.reduceEqDiff, Nat.reduceBEq, Nat.reduceBNe, Nat.reduceGT, Int.reduceAdd, Int.reduceSub, Int.reduceMul, Int.reduceNeg, Int.reduceLT, Int.reduceLE, Int.reduceEq, Int.reduceNe, Int.reduceBEq, Int.reduceBNe, Int.reduceToNat, Int.reduceGT, Int.reduceGE, ↓reduceIte, decide_true, decide_false, eq_self, Nat.mul_one, Nat.zero_mul, Nat.one_mul, Int.le_refl, Nat.le_refl, Int.cast_ofNat_Int, hlt, w2, w0, w0', IntKind.bits, unS_eq, unS_nil, lT, lS0, eS, hrp, Span.t, Span.cs, w3, Sx.cs, b, ngt, heq, hM, Bool.false_or, show ((1 : Int) - 1) = 0 from rfl]
          refine hI1 _ ⟨k + 1, by omega⟩ (by simp only; omega) ?_
          simp (decide := true) (maxSteps := 4000000) only [go_sem, Nat.reduceAdd, Nat.reduceSub, Nat.reduceMul, Nat.reduceDiv, Nat.reduceMod, Nat.reduceLT, Nat.reduceLeDiff, Nat.reduceEqDiff, Nat.reduceBEq, Nat.reduceBNe, Nat.reduceGT, Int.reduceAdd, Int.reduceSub, Int.reduceMul, Int.reduceNeg, Int.reduceLT, Int.reduceLE, Int.reduceEq, Int.reduceNe, Int.reduceBEq, Int.reduceBNe, Int.reduceToNat, Int.reduceGT, Int.reduceGE, ↓reduceIte, decide_true, decide_false, eq_self, Nat.mul_one, Nat.zero_mul, Nat.one_mul, Int.le_refl, Nat.le_refl, Int.cast_ofNat_Int, hc1, hnx, orN, Sx.cs]
        · simp (decide := true) (maxSteps := 4000000) only [go_sem, Nat.reduceAdd, Nat.reduceSub, Nat.reduceMul, Nat.reduceDiv, Nat.reduceMod, Nat.reduceLT, Nat.reduceLeDiff, Nat.reduceEqDiff, Nat.reduceBEq, Nat.reduceBNe, Nat.reduceGT, Int.reduceAdd, Int.reduceSub, Int.reduceMul, Int.reduceNeg, Int.reduceLT, Int.reduceLE, Int.reduceEq, Int.reduceNe, Int.reduceBEq, Int.reduceBNe, Int.reduceToNat, Int.reduceGT, Int.reduceGE, ↓reduceIte, decide_true, decide_false, eq_self, Nat.mul_one, Nat.zero_mul, Nat.one_mul, Int.le_refl, Nat.le_refl, Int.cast_ofNat_Int, hlt, w2, hsh, w1, hl0, IntKind.bits, unS_eq, lT, lS, e0, hrp, Span.t, Span.cs, w3, Sx.cs, b, ngt, heq, hM, Bool.false_or]
          refine hI1 _ ⟨k + 1, by omega⟩ (by simp only; omega) ?_
          simp (decide := true) (maxSteps := 4000000) only [go_sem, Nat.reduceAdd, Nat.reduceSub, Nat.reduceMul, Nat.reduceDiv, Nat.reduceMod, Nat.reduceLT, Nat.reduceLeDiff, Nat.reduceEqDiff, Nat.reduceBEq, Nat.reduceBNe, Nat.reduceGT, Int.reduceAdd, Int.reduceSub, Int.reduceMul, Int.reduceNeg, Int.reduceLT, Int.reduceLE, Int.reduceEq, Int.reduceNe, Int.reduceBEq, Int.reduceBNe, Int.reduceToNat, Int.reduceGT, Int.reduceGE, ↓reduceIte, decide_true, decide_false, eq_self, Nat.mul_one, Nat.zero_mul, Nat.one_mul, Int.le_refl, Nat.le_refl, Int.cast_ofNat_Int, hc1, hnx, orN, Sx.cs]
      · have hke : k = x.tab.length := by omega
        subst hke
        simp (decide := true) (maxSteps := 4000000) only [go_sem, Nat.reduceAdd, Nat.reduceSub, Nat.reduceMul, Nat.reduceDiv, Nat.reduceMod, Nat.reduceLT, Nat.reduceLeDiff, Nat.reduceEqDiff, Nat.reduceBEq, Nat.reduceBNe, Nat.reduceGT, Int.reduceAdd, Int.reduceSub, Int.reduceMul, Int.reduceNeg, Int.reduceLT, Int.reduceLE, Int.reduceEq, Int.reduceNe, Int.reduceBEq, Int.reduceBNe, Int.reduceToNat, Int.reduceGT, Int.reduceGE, ↓reduceIte, decide_true, decide_false, eq_self, Nat.mul_one, Nat.zero_mul, Nat.one_mul, Int.le_refl, Nat.le_refl, Int.cast_ofNat_Int, hlt]
        refine hQ1 _ _ ?_
        simp (decide := true) (maxSteps := 4000000) only [go_sem, Nat.reduceAdd, Nat.reduceSub, Nat.reduceMul, Nat.reduceDiv, Nat.reduceMod, Nat.reduceLT, Nat.reduceLeDiff, Nat.reduceEqDiff, Nat.reduceBEq, Nat.reduceBNe, Nat.reduceGT, Int.reduceAdd, Int.reduceSub, Int.reduceMul, Int.reduceNeg, Int.reduceLT, Int.reduceLE, Int.reduceEq, Int.reduceNe, Int.reduceBEq, Int.reduceBNe, Int.reduceToNat, Int.reduceGT, Int.reduceGE, ↓reduceIte, decide_true, decide_false, eq_self, Nat.mul_one, Nat.zero_mul, Nat.one_mul, Int.le_refl, Nat.le_refl, Int.cast_ofNat_Int, hmet, la1, la2, la3, Bool.true_and, Bool.and_self]
end Go.Proofs.Ytjmkccckohcfkaa

/- Part Ox. -/
namespace Go.Proofs.Ytjmkccckohcfkaa
open Go.RowKit Go.Pm Go.Oc Go.Oh Go.Os
set_option maxRecDepth 100000
set_option linter.unusedVariables false

theorem slice_cells {k : Nat} {t e : TypeId} {cs : List TV} (hu : Program.underlying Try.prog t = some (.slice e)) (h : cellsOk Try.prog (k + 1) t cs) : ∃ x, cs = [x] ∧ cellsOk Try.prog (k + 1) t [x] := by
  have h' := h
  unfold cellsOk at h'
  rw [hu] at h'
  rcases h' with h' | ⟨rows, full, h', _⟩
  · exact ⟨_, h', by rw [← h']; exact h⟩
  · exact ⟨_, h', by rw [← h']; exact h⟩
theorem int_cells {k : Nat} {cs : List TV} (h : cellsOk Try.prog (k + 1) 3 cs) : ∃ n, cs = [.int .i64 n] ∧ -9223372036854775808 ≤ n ∧ n ≤ 9223372036854775807 := cellsOk_i64 (by kernel_rfl) h
theorem span_cells {k : Nat} {cs : List TV} (h : cellsOk Try.prog (k + 2) 24 cs) : ∃ s : Span, cs = s.cs ∧ (-9223372036854775808 ≤ s.lo ∧ s.lo ≤ 9223372036854775807) ∧ -9223372036854775808 ≤ s.hi ∧ s.hi ≤ 9223372036854775807 := by
  have h := cellsOk_tys (ts := [3, 3]) (by kernel_rfl) h
  obtain ⟨_, r, rfl, h1, h⟩ := seqOk_cons h
  obtain ⟨_, r, rfl, h2, h⟩ := seqOk_cons h
  cases seqOk_nil h
  obtain ⟨a, rfl, ha⟩ := int_cells h1
  obtain ⟨b, rfl, hb⟩ := int_cells h2
  exact ⟨⟨a, b⟩, rfl, ha, hb⟩
theorem ints_cells {x : TV} {k : Nat} (h : cellsOk Try.prog (k + 2) 45 [x]) : ∃ l : List Int, IsRow ic x l ∧ l.length ≤ 17592186044415 ∧ ∀ n ∈ l, -9223372036854775808 ≤ n ∧ n ≤ 9223372036854775807 := by
  obtain ⟨l, h1, h2, h3, _⟩ := cellsOk_row (e := 3) (c := ic) (p := fun n => -9223372036854775808 ≤ n ∧ n ≤ 9223372036854775807) (by kernel_rfl) (fun cs hc => int_cells hc) h
  rw [show Program.bytesOf Try.prog 3 = 8 by kernel_rfl] at h3
  unfold reachBytes at h3
  exact ⟨l, h1, by omega, h2⟩
theorem spans_cells {x : TV} {k : Nat} (h : cellsOk Try.prog (k + 3) 22 [x]) : ∃ l : List Span, IsRow Span.cs x l ∧ l.length ≤ 9000000000000 ∧ ∀ s ∈ l, (-9223372036854775808 ≤ s.lo ∧ s.lo ≤ 9223372036854775807) ∧ -9223372036854775808 ≤ s.hi ∧ s.hi ≤ 9223372036854775807 := by
  obtain ⟨l, h1, h2, h3, _⟩ := cellsOk_row (e := 24) (c := Span.cs) (p := fun s : Span => (-9223372036854775808 ≤ s.lo ∧ s.lo ≤ 9223372036854775807) ∧ -9223372036854775808 ≤ s.hi ∧ s.hi ≤ 9223372036854775807) (by kernel_rfl) (fun cs hc => span_cells hc) h
  rw [show Program.bytesOf Try.prog 24 = 16 by kernel_rfl] at h3
  unfold reachBytes at h3
  exact ⟨l, h1, by omega, h2⟩
theorem sun_cells {k : Nat} {cs : List TV} (h : cellsOk Try.prog (k + 2) 67 cs) : ∃ s : Sun, cs = s.cs ∧ True := by
  have h := cellsOk_tys (ts := [3, 3]) (by kernel_rfl) h
  obtain ⟨_, r, rfl, h1, h⟩ := seqOk_cons h
  obtain ⟨_, r, rfl, h2, h⟩ := seqOk_cons h
  cases seqOk_nil h
  obtain ⟨a, rfl, ha⟩ := int_cells h1
  obtain ⟨b, rfl, hb⟩ := int_cells h2
  exact ⟨⟨a, b⟩, rfl, trivial⟩
theorem read_cells {k : Nat} {cs : List TV} (h : cellsOk Try.prog (k + 2) 28 cs) : ∃ a b : Int, cs = [.int .i64 a, .int .i64 b] ∧ (-9223372036854775808 ≤ a ∧ a ≤ 9223372036854775807) ∧ -9223372036854775808 ≤ b ∧ b ≤ 9223372036854775807 := by
  have h := cellsOk_tys (ts := [3, 3]) (by kernel_rfl) h
  obtain ⟨_, r, rfl, h1, h⟩ := seqOk_cons h
  obtain ⟨_, r, rfl, h2, h⟩ := seqOk_cons h
  cases seqOk_nil h
  obtain ⟨a, rfl, ha⟩ := int_cells h1
  obtain ⟨b, rfl, hb⟩ := int_cells h2
  exact ⟨a, b, rfl, ha, hb⟩
theorem trial_cells {k : Nat} {cs : List TV} (h : cellsOk Try.prog (k + 3) 84 cs) : ∃ p : Tr, cs = p.cs ∧ True := by
  have h := cellsOk_tys (ts := [28, 3]) (by kernel_rfl) h
  obtain ⟨_, r, rfl, h1, h⟩ := seqOk_cons h
  obtain ⟨_, r, rfl, h2, h⟩ := seqOk_cons h
  cases seqOk_nil h
  obtain ⟨a, b, rfl, _⟩ := read_cells h1
  obtain ⟨c, rfl, _⟩ := int_cells h2
  exact ⟨⟨a, b, c⟩, rfl, trivial⟩
theorem part_cells {k : Nat} {cs : List TV} (h : cellsOk Try.prog (k + 4) 77 cs) : ∃ p : Pt, cs = p.cs ∧ decP p = true := by
  have h := cellsOk_tys (ts := [3, 3, 22]) (by kernel_rfl) h
  obtain ⟨_, r, rfl, h1, h⟩ := seqOk_cons h
  obtain ⟨_, r, rfl, h2, h⟩ := seqOk_cons h
  obtain ⟨_, r, rfl, h3, h⟩ := seqOk_cons h
  cases seqOk_nil h
  obtain ⟨a, rfl, _⟩ := int_cells h1
  obtain ⟨b, rfl, _⟩ := int_cells h2
  obtain ⟨c, rfl, h3⟩ := slice_cells (e := 24) (by kernel_rfl) h3
  obtain ⟨l, hl, ll, _⟩ := spans_cells h3
  refine ⟨⟨a, b, c⟩, rfl, ?_⟩
  unfold decP
  rw [show rowL unS (Pt.mk a b c).s = some l from rowS_is hl]
  exact decide_eq_true ll
theorem sxArg {x : TV} (h : argOk Try.prog 26 x) : ∃ (s : Sx) (sT sS : TV), x = s.t sT sS ∧ IsRow Span.cs sT s.tab ∧ IsRow Span.cs sS s.shade ∧ s.tab.length ≤ 9000000000000 ∧ s.shade.length ≤ 9000000000000 := by
  obtain ⟨cs, rfl, h'⟩ := argOk_agg (ts := [3, 22, 24, 3, 22]) (by kernel_rfl) h
  have h := cellsOk_tys (ts := [3, 22, 24, 3, 22]) (by kernel_rfl) h'
  obtain ⟨_, r, rfl, h1, h⟩ := seqOk_cons h
  obtain ⟨_, r, rfl, h2, h⟩ := seqOk_cons h
  obtain ⟨_, r, rfl, h3, h⟩ := seqOk_cons h
  obtain ⟨_, r, rfl, h4, h⟩ := seqOk_cons h
  obtain ⟨_, r, rfl, h5, h⟩ := seqOk_cons h
  cases seqOk_nil h
  obtain ⟨a, rfl, _⟩ := int_cells h1
  obtain ⟨b, rfl, h2⟩ := slice_cells (e := 24) (by kernel_rfl) h2
  obtain ⟨c, rfl, _⟩ := span_cells h3
  obtain ⟨d, rfl, _⟩ := int_cells h4
  obtain ⟨e, rfl, h5⟩ := slice_cells (e := 24) (by kernel_rfl) h5
  obtain ⟨T, hT, lT, _⟩ := spans_cells h2
  obtain ⟨S, hS, lS, _⟩ := spans_cells h5
  exact ⟨⟨a, T, c, d, S⟩, b, e, rfl, hT, hS, lT, lS⟩
theorem rdArg {x : TV} (h : argOk Try.prog 28 x) : ∃ a b : Int, x = .agg [.int .i64 a, .int .i64 b] := by
  obtain ⟨cs, rfl, h'⟩ := argOk_agg (ts := [3, 3]) (by kernel_rfl) h
  obtain ⟨a, b, rfl, _⟩ := read_cells h'
  exact ⟨a, b, rfl⟩
theorem spArg {x : TV} (h : argOk Try.prog 24 x) : ∃ s : Span, x = s.t ∧ (-9223372036854775808 ≤ s.lo ∧ s.lo ≤ 9223372036854775807) ∧ -9223372036854775808 ≤ s.hi ∧ s.hi ≤ 9223372036854775807 := by
  obtain ⟨cs, rfl, h'⟩ := argOk_agg (ts := [3, 3]) (by kernel_rfl) h
  obtain ⟨s, rfl, h1, h2⟩ := span_cells h'
  exact ⟨s, rfl, h1, h2⟩
theorem intArg {x : TV} (h : argOk Try.prog 3 x) : ∃ n, x = .int .i64 n ∧ -9223372036854775808 ≤ n ∧ n ≤ 9223372036854775807 := argOk_i64 (by kernel_rfl) h
theorem intsArg {x : TV} (h : argOk Try.prog 45 x) : ∃ l : List Int, IsRow ic x l ∧ l.length ≤ 17592186044415 ∧ ∀ n ∈ l, -9223372036854775808 ≤ n ∧ n ≤ 9223372036854775807 := ints_cells (argOk_sl (e := 3) (by kernel_rfl) h)
theorem sunsArg {x : TV} (h : argOk Try.prog 37 x) : ∃ l : List Sun, IsRow Sun.cs x l ∧ l.length ≤ 9000000000000 := by
  obtain ⟨l, h1, _, h3, _⟩ := cellsOk_row (e := 67) (c := Sun.cs) (p := fun _ => True) (by kernel_rfl) (fun cs hc => sun_cells hc) (argOk_sl (e := 67) (by kernel_rfl) h)
  rw [show Program.bytesOf Try.prog 67 = 16 by kernel_rfl] at h3
  unfold reachBytes at h3
  exact ⟨l, h1, by omega⟩
theorem trialsArg {x : TV} (h : argOk Try.prog 41 x) : ∃ l : List Tr, IsRow Tr.cs x l ∧ l.length ≤ 9000000000000 := by
  obtain ⟨l, h1, _, h3, _⟩ := cellsOk_row (e := 84) (c := Tr.cs) (p := fun _ => True) (by kernel_rfl) (fun cs hc => trial_cells hc) (argOk_sl (e := 84) (by kernel_rfl) h)
  rw [show Program.bytesOf Try.prog 84 = 24 by kernel_rfl] at h3
  unfold reachBytes at h3
  exact ⟨l, h1, by omega⟩
theorem partsArg {x : TV} (h : argOk Try.prog 50 x) : ∃ l : List Pt, IsRow Pt.cs x l ∧ l.length ≤ 9000000000000 ∧ l.all decP = true := by
  obtain ⟨l, h1, h2, h3, _⟩ := cellsOk_row (e := 77) (c := Pt.cs) (p := fun p => decP p = true) (by kernel_rfl) (fun cs hc => part_cells hc) (argOk_sl (e := 77) (by kernel_rfl) h)
  rw [show Program.bytesOf Try.prog 77 = 40 by kernel_rfl] at h3
  unfold reachBytes at h3
  exact ⟨l, h1, by omega, List.all_eq_true.2 h2⟩
end Go.Proofs.Ytjmkccckohcfkaa
