/- What the claim leans on, text 6. -/
import Derived.Test.YtjmkccckohcfkaaC5
set_option linter.unusedSimpArgs false
set_option linter.unusedVariables false

/- Part Sr. -/
namespace Go.Os
open Go Go.Pm Go.Oc Go.Oh
def sum3 (A B C : List Span) (k : Nat) : Span := addS (addS (atS A k) (atS B k)) (atS C k)
def inBd (bound : Int) (s : Span) : Bool := decide (-bound ≤ s.lo) && decide (s.hi ≤ bound)
/-- Do three such parts fit? -/
def fitB (bound : Int) (b0 b1 b2 : Bool) (A B C : List Span) : Bool := b0 && (b1 && (b2 && (List.range A.length).all fun k => inBd bound (sum3 A B C k)))
def tlAll (l : List Span) (n : Nat) : Bool := decide (l.length = n) && l.all (spannedB · (-1000) 1000)
end Go.Os
namespace Go.Proofs.Ytjmkccckohcfkaa
open Go.RowKit Go.Pm Go.Oc Go.Oh Go.Os
set_option maxRecDepth 100000
set_option linter.unusedVariables false
set_option maxHeartbeats 8000000

theorem sIs_c (a b k : Int) (s : TV) : PCalls Try.prog 85 [.agg [.int .i64 a, .int .i64 b, s], .cptr [.int .i64 k]] (.bool (a == k)) := by
  refine pcalls_by Try.mixes noSpec_ok (fn := Try.f85) Try.func85 rfl (by kernel_rfl) (by show 2 ≤ _; decide) ?_
  simp (decide := true) (maxSteps := 4000000) only [go_sem, Nat.reduceAdd, Nat.reduceSub, Nat.reduceMul, Nat.reduceDiv, Nat.reduceMod, Nat.reduceLT, Nat.reduceLeDiff, Nat.reduceEqDiff, Nat.reduceBEq, Nat.reduceBNe, Nat.reduceGT, Int.reduceAdd, Int.reduceSub, Int.reduceMul, Int.reduceNeg, Int.reduceLT, Int.reduceLE, Int.reduceEq, Int.reduceNe, Int.reduceBEq, Int.reduceBNe, Int.reduceToNat, Int.reduceGT, Int.reduceGE, ↓reduceIte, decide_true, decide_false, eq_self, Nat.mul_one, Nat.zero_mul, Nat.one_mul, Int.le_refl, Nat.le_refl, Int.cast_ofNat_Int, Try.f85]
noncomputable def sxIs : List TV → Option TV
  | [.agg [.int .i64 a, .int .i64 b, s], .cptr [.int .i64 k]] => some (.bool (a == k))
  | _ => none
theorem sxIs_ok : ∀ xs r, sxIs xs = some r → PCalls Try.prog 85 xs r := by
  intro xs r h
  unfold sxIs at h
  split at h
  · cases h; exact sIs_c _ _ _ _
  · cases h
attribute [go_sem] sxIs
noncomputable def spRa : Pm.Spec := { noSpec with fz := fun _ => true }
@[go_sem] theorem spRa_p (f : FuncId) (xs : List TV) : spRa.p f xs = Pm.Spec.p ({ noSpec with fz := fun _ => true }) f xs := rfl
@[go_sem] theorem spRa_h (f : FuncId) (ps : List PV) (hl : List PO) : spRa.h f ps hl = Pm.Spec.h ({ noSpec with fz := fun _ => true }) f ps hl := rfl
@[go_sem] theorem spRa_fz (f : FuncId) : spRa.fz f = Pm.Spec.fz ({ noSpec with fz := fun _ => true }) f := rfl
@[go_sem] theorem spRa_fr (f : FuncId) : spRa.fr f = Pm.Spec.fr ({ noSpec with fz := fun _ => true }) f := rfl
@[go_sem] theorem spRa_mu (t : TypeId) : spRa.mu t = Pm.Spec.mu ({ noSpec with fz := fun _ => true }) t := rfl
@[go_sem] theorem spRa_nf (t : TypeId) : spRa.nf t = Pm.Spec.nf ({ noSpec with fz := fun _ => true }) t := rfl
theorem spRa_ok : SpecOk Try.prog spRa := ⟨noSpec_ok.1, noSpec_ok.2⟩
theorem sOf_c {l : List Pt} {i : Nat} {p : Pt} (hp : l[i]? = some p) (kind : Int) (f : Bool) : PCalls Try.prog 84 [.int .i64 i, .int .i64 kind, .cptr [.sl (l.flatMap Pt.cs) l.length f]] (.agg [.int .i64 p.k, .int .i64 p.p, p.s, .fn 85 [] [.cptr [.int .i64 kind]]]) := by
  have hd := flat_at Pt.cs (n := 3) (fun _ => rfl) hp
  have hlt : (i : Int) < l.length := by have := (List.getElem?_eq_some_iff.1 hp).1; omega
  refine pcalls_by Try.mixes spRa_ok (fn := Try.f84) Try.func84 rfl (by kernel_rfl) (by show 3 ≤ _; decide) ?_
  simp (decide := true) (maxSteps := 4000000) only [go_sem, Nat.reduceAdd, Nat.reduceSub, Nat.reduceMul, Nat.reduceDiv, Nat.reduceMod, Nat.reduceLT, Nat.reduceLeDiff, Nat.reduceEqDiff, Nat.reduceBEq, Nat.reduceBNe, Nat.reduceGT, Int.reduceAdd, Int.reduceSub, Int.reduceMul, Int.reduceNeg, Int.reduceLT, Int.reduceLE, Int.reduceEq, Int.reduceNe, Int.reduceBEq, Int.reduceBNe, Int.reduceToNat, Int.reduceGT, Int.reduceGE, ↓reduceIte, decide_true, decide_false, eq_self, Nat.mul_one, Nat.zero_mul, Nat.one_mul, Int.le_refl, Nat.le_refl, Int.cast_ofNat_Int, Try.f84, hd, hlt, Int.toNat_natCast, Pt.cs]
noncomputable def sxOf : List TV → Option TV
  | [.int .i64 i, .int .i64 kind, .cptr [.sl cs n f]] => match unP cs with
    | some l => if n = l.length ∧ 0 ≤ i then (match l[i.toNat]? with
      | some p => some (.agg [.int .i64 p.k, .int .i64 p.p, p.s, .fn 85 [] [.cptr [.int .i64 kind]]])
      | none => none) else none
    | none => none
  | _ => none
theorem sxOf_ok : ∀ xs r, sxOf xs = some r → PCalls Try.prog 84 xs r := by
  intro xs r h
  unfold sxOf at h
  split at h
  · split at h
    · rename_i l hl
      split at h
      · rename_i hc
        split at h
        · rename_i p hp
          cases h
          obtain ⟨rfl, h0⟩ := hc
          have := sOf_c hp
          rw [Int.toNat_of_nonneg h0, ← unP_some hl] at this
          exact this _ _
        · cases h
      · cases h
    · cases h
  · cases h
attribute [go_sem] sxOf
noncomputable def spRb : Pm.Spec := (noSpec.one 85 sxIs).one 95 sxSum
@[go_sem] theorem spRb_p (f : FuncId) (xs : List TV) : spRb.p f xs = Pm.Spec.p ((noSpec.one 85 sxIs).one 95 sxSum) f xs := rfl
@[go_sem] theorem spRb_h (f : FuncId) (ps : List PV) (hl : List PO) : spRb.h f ps hl = Pm.Spec.h ((noSpec.one 85 sxIs).one 95 sxSum) f ps hl := rfl
@[go_sem] theorem spRb_fz (f : FuncId) : spRb.fz f = Pm.Spec.fz ((noSpec.one 85 sxIs).one 95 sxSum) f := rfl
@[go_sem] theorem spRb_fr (f : FuncId) : spRb.fr f = Pm.Spec.fr ((noSpec.one 85 sxIs).one 95 sxSum) f := rfl
@[go_sem] theorem spRb_mu (t : TypeId) : spRb.mu t = Pm.Spec.mu ((noSpec.one 85 sxIs).one 95 sxSum) t := rfl
@[go_sem] theorem spRb_nf (t : TypeId) : spRb.nf t = Pm.Spec.nf ((noSpec.one 85 sxIs).one 95 sxSum) t := rfl
theorem spRb_ok : SpecOk Try.prog spRb := Spec.one_ok sxSum_ok (Spec.one_ok sxIs_ok noSpec_ok)
theorem sFit_c (bound k0 k1 k2 p0 p1 p2 c0 c1 c2 : Int) (A B C : List Span) (f0 f1 f2 f : Bool) (hb : 0 ≤ bound ∧ bound ≤ 5000) (hn : 1 ≤ A.length ∧ A.length ≤ 12) (hA : tlAll A A.length = true) (hB : tlAll B A.length = true) (hC : tlAll C A.length = true) :
    PCalls Try.prog 86 [.int .i64 bound, .sl [.int .i64 k0, .int .i64 p0, .sl (A.flatMap Span.cs) A.length f0, .fn 85 [] [.cptr [.int .i64 c0]], .int .i64 k1, .int .i64 p1, .sl (B.flatMap Span.cs) B.length f1, .fn 85 [] [.cptr [.int .i64 c1]],
      .int .i64 k2, .int .i64 p2, .sl (C.flatMap Span.cs) C.length f2, .fn 85 [] [.cptr [.int .i64 c2]]] 3 f] (.bool (fitB bound (k0 == c0) (k1 == c1) (k2 == c2) A B C)) := by
  have hBl : B.length = A.length := by unfold tlAll at hB; simp at hB; exact hB.1
  have hCl : C.length = A.length := by unfold tlAll at hC; simp at hC; exact hC.1
  have bd : ∀ (L : List Span), tlAll L A.length = true → ∀ s ∈ L, -1000 ≤ s.lo ∧ s.lo ≤ s.hi ∧ s.hi ≤ 1000 := fun L hL s hs => by
    unfold tlAll at hL
    rw [Bool.and_eq_true] at hL
    exact spannedB_iff.1 (List.all_eq_true.1 hL.2 s hs)
  refine pcalls_by Try.mixes spRb_ok (fn := Try.f86) Try.func86 rfl (by kernel_rfl) (by show 2 ≤ _; decide) ?_
  simp (decide := true) (maxSteps := 4000000) only [go_sem, Nat.reduceAdd, Nat.reduceSub, Nat.reduceMul, Nat.reduceDiv, Nat.reduceMod, Nat.reduceLT, Nat.reduceLeDiff, Nat.reduceEqDiff, Nat.reduceBEq, Nat.reduceBNe, Nat.reduceGT, Int.reduceAdd, Int.reduceSub, Int.reduceMul, Int.reduceNeg, Int.reduceLT, Int.reduceLE, Int.reduceEq, Int.reduceNe, Int.reduceBEq, Int.reduceBNe, Int.reduceToNat, Int.reduceGT, Int.reduceGE, ↓reduceIte, decide_true, decide_false, eq_self, Nat.mul_one, Nat.zero_mul, Nat.one_mul, Int.le_refl, Nat.le_refl, Int.cast_ofNat_Int, Try.f86]
  refine pwpC_loopU (A := { j : Nat // j ≤ 3 ∧ (0 < j → (k0 == c0) = true) ∧ (1 < j → (k1 == c1) = true) ∧ (2 < j → (k2 == c2) = true) }) [0, 1, 4, 9, 10] (fun j => [(11, .t (.int .i64 j.1))]) (fun _ => []) (fun j => 3 - j.1) ⟨0, by omega, by omega, by omega, by omega⟩ (by decide) (fun _ => by rfl) ?_ fun Q1 hQ1 ⟨j, hj, hj0, hj1, hj2⟩ I1 hI1 => ?_
  · simp (decide := true) (maxSteps := 4000000) only [go_sem, Nat.reduceAdd, Nat.reduceSub, Nat.reduceMul, Nat.reduceDiv, Nat.reduceMod, Nat.reduceLT, Nat.reduceLeDiff, Nat.reduceEqDiff, Nat.reduceBEq, Nat.reduceBNe, Nat.reduceGT, Int.reduceAdd, Int.reduceSub, Int.reduceMul, Int.reduceNeg, Int.reduceLT, Int.reduceLE, Int.reduceEq, Int.reduceNe, Int.reduceBEq, Int.reduceBNe, Int.reduceToNat, Int.reduceGT, Int.reduceGE, ↓reduceIte, decide_true, decide_false, eq_self, Nat.mul_one, Nat.zero_mul, Nat.one_mul, Int.le_refl, Nat.le_refl, Int.cast_ofNat_Int]
  · rcases (show j = 0 ∨ j = 1 ∨ j = 2 ∨ j = 3 by omega) with rfl | rfl | rfl | rfl
    · have d1 : (0 : Int) < 3 := by decide
      rcases (Bool.eq_false_or_eq_true (k0 == c0)).symm with hk | hk
      · simp (decide := true) (maxSteps := 4000000) only [go_sem, Nat.reduceAdd, Nat.reduceSub, Nat.reduceMul, Nat.reduceDiv, Nat.reduceMod, Nat.reduceLT, Nat.reduceLeDiff, Nat.reduceEqDiff, Nat.reduceBEq, Nat.reduceBNe, Nat.reduceGT, Int.reduceAdd, Int.reduceSub, Int.reduceMul, Int.reduceNeg, Int.reduceLT, Int.reduceLE, Int.reduceEq, Int.reduceNe, Int.reduceBEq, Int.reduceBNe, Int.reduceToNat, Int.reduceGT, Int.reduceGE, ↓reduceIte, decide_true, decide_false, eq_self, Nat.mul_one, Nat.zero_mul, Nat.one_mul, Int.le_refl, Nat.le_refl, Int.cast_ofNat_Int, d1, hk]
        refine hQ1 _ _ ?_
        simp (decide := true) (maxSteps := 4000000) only [go_sem, Nat.reduceAdd, Nat.reduceSub, Nat.reduceMul, Nat.reduceDiv, Nat.reduceMod, Nat.reduceLT, Nat.reduceLeDiff, Nat.reduceEqDiff, Nat.reduceBEq, Nat.reduceBNe, Nat.reduceGT, Int.reduceAdd, Int.reduceSub, Int.reduceMul, Int.reduceNeg, Int.reduceLT, Int.reduceLE, Int.reduceEq, Int.reduceNe, Int.reduceBEq, Int.reduceBNe, Int.reduceToNat, Int.reduceGT, Int.reduceGE, ↓reduceIte, decide_true, decide_false, eq_self, Nat.mul_one, Nat.zero_mul, Nat.one_mul, Int.le_refl, Nat.le_refl, Int.cast_ofNat_Int, fitB, hk, Bool.false_and]
      · simp (decide := true) (maxSteps := 4000000) only [go_sem, Nat.reduceAdd, Nat.reduceSub, Nat.reduceMul, Nat.reduceDiv, Nat.reduceMod, Nat.reduceLT, Nat.reduceLeDiff, Nat.reduceEqDiff, Nat.reduceBEq, Nat.reduceBNe, Nat.reduceGT, Int.reduceAdd, Int.reduceSub, Int.reduceMul, Int.reduceNeg, Int.reduceLT, Int.reduceLE, Int.reduceEq, Int.reduceNe, Int.reduceBEq, Int.reduceBNe, Int.reduceToNat, Int.reduceGT, Int.reduceGE, ↓reduceIte, decide_true, decide_false, eq_self, Nat.mul_one, Nat.zero_mul, Nat.one_mul, Int.le_refl, Nat.le_refl, Int.cast_ofNat_Int, d1, hk]
        refine hI1 _ ⟨1, by omega, fun _ => hk, by omega, by omega⟩ (by simp only; omega) ?_
        simp (decide := true) (maxSteps := 4000000) only [go_sem, Nat.reduceAdd, Nat.reduceSub, Nat.reduceMul, Nat.reduceDiv, Nat.reduceMod, Nat.reduceLT, Nat.reduceLeDiff, Nat.reduceEqDiff, Nat.reduceBEq, Nat.reduceBNe, Nat.reduceGT, Int.reduceAdd, Int.reduceSub, Int.reduceMul, Int.reduceNeg, Int.reduceLT, Int.reduceLE, Int.reduceEq, Int.reduceNe, Int.reduceBEq, Int.reduceBNe, Int.reduceToNat, Int.reduceGT, Int.reduceGE, ↓reduceIte, decide_true, decide_false, eq_self, Nat.mul_one, Nat.zero_mul, Nat.one_mul, Int.le_refl, Nat.le_refl, Int.cast_ofNat_Int, wl1]
    · have d1 : (1 : Int) < 3 := by decide
      rcases (Bool.eq_false_or_eq_true (k1 == c1)).symm with hk | hk
      · simp (decide := true) (maxSteps := 4000000) only [go_sem, Nat.reduceAdd, Nat.reduceSub, Nat.reduceMul, Nat.reduceDiv, Nat.reduceMod, Nat.reduceLT, Nat.reduceLeDiff, Nat.reduceEqDiff, Nat.reduceBEq, Nat.reduceBNe, Nat.reduceGT, Int.reduceAdd, Int.reduceSub, Int.reduceMul, Int.reduceNeg, Int.reduceLT, Int.reduceLE, Int.reduceEq, Int.reduceNe, Int.reduceBEq, Int.reduceBNe, Int.reduceToNat, Int.reduceGT, Int.reduceGE, ↓reduceIte, decide_true, decide_false, eq_self, Nat.mul_one, Nat.zero_mul, Nat.one_mul, Int.le_refl, Nat.le_refl, Int.cast_ofNat_Int, d1, hk]
        refine hQ1 _ _ ?_
        simp (decide := true) (maxSteps := 4000000) only [go_sem, Nat.reduceAdd, Nat.reduceSub, Nat.reduceMul, Nat.reduceDiv, Nat.reduceMod, Nat.reduceLT, Nat.reduceLeDiff, Nat.reduceEqDiff, Nat.reduceBEq, Nat.reduceBNe, Nat.reduceGT, Int.reduceAdd, Int.reduceSub, Int.reduceMul, Int.reduceNeg, Int.reduceLT, Int.reduceLE, Int.reduceEq, Int.reduceNe, Int.reduceBEq, Int.reduceBNe, Int.reduceToNat, Int.reduceGT, Int.reduceGE, ↓reduceIte, decide_true, decide_false, eq_self, Nat.mul_one, Nat.zero_mul, Nat.one_mul, Int.le_refl, Nat.le_refl, Int.cast_ofNat_Int, fitB, hk, hj0 (by omega), Bool.false_and, Bool.true_and]
      · simp (decide := true) (maxSteps := 4000000) only [go_sem, Nat.reduceAdd, Nat.reduceSub, Nat.reduceMul, Nat.reduceDiv, Nat.reduceMod, Nat.reduceLT, Nat.reduceLeDiff, Nat.reduceEqDiff, Nat.reduceBEq, Nat.reduceBNe, Nat.reduceGT, Int.reduceAdd, Int.reduceSub, Int.reduceMul, Int.reduceNeg, Int.reduceLT, Int.reduceLE, Int.reduceEq, Int.reduceNe, Int.reduceBEq, Int.reduceBNe, Int.reduceToNat, Int.reduceGT, Int.reduceGE, ↓reduceIte, decide_true, decide_false, eq_self, Nat.mul_one, Nat.zero_mul, Nat.one_mul, Int.le_refl, Nat.le_refl, Int.cast_ofNat_Int, d1, hk]
        refine hI1 _ ⟨2, by omega, fun _ => hj0 (by omega), fun _ => hk, by omega⟩ (by simp only; omega) ?_
        simp (decide := true) (maxSteps := 4000000) only [go_sem, Nat.reduceAdd, Nat.reduceSub, Nat.reduceMul, Nat.reduceDiv, Nat.reduceMod, Nat.reduceLT, Nat.reduceLeDiff, Nat.reduceEqDiff, Nat.reduceBEq, Nat.reduceBNe, Nat.reduceGT, Int.reduceAdd, Int.reduceSub, Int.reduceMul, Int.reduceNeg, Int.reduceLT, Int.reduceLE, Int.reduceEq, Int.reduceNe, Int.reduceBEq, Int.reduceBNe, Int.reduceToNat, Int.reduceGT, Int.reduceGE, ↓reduceIte, decide_true, decide_false, eq_self, Nat.mul_one, Nat.zero_mul, Nat.one_mul, Int.le_refl, Nat.le_refl, Int.cast_ofNat_Int, wl2]
    · have d1 : (2 : Int) < 3 := by decide
      rcases (Bool.eq_false_or_eq_true (k2 == c2)).symm with hk | hk
      · simp (decide := true) (maxSteps := 4000000) only [go_sem, Nat.reduceAdd, Nat.reduceSub, Nat.reduceMul, Nat.reduceDiv, Nat.reduceMod, Nat.reduceLT, Nat.reduceLeDiff, Nat.reduceEqDiff, Nat.reduceBEq, Nat.reduceBNe, Nat.reduceGT, Int.reduceAdd, Int.reduceSub, Int.reduceMul, Int.reduceNeg, Int.reduceLT, Int.reduceLE, Int.reduceEq, Int.reduceNe, Int.reduceBEq, Int.reduceBNe, Int.reduceToNat, Int.reduceGT, Int.reduceGE, ↓reduceIte, decide_true, decide_false, eq_self, Nat.mul_one, Nat.zero_mul, Nat.one_mul, Int.le_refl, Nat.le_refl, Int.cast_ofNat_Int, d1, hk]
        refine hQ1 _ _ ?_
        simp (decide := true) (maxSteps := 4000000) only [go_sem, Nat.reduceAdd, Nat.reduceSub, Nat.reduceMul, Nat.reduceDiv, Nat.reduceMod, Nat.reduceLT, Nat.reduceLeDiff, Nat.reduceEqDiff, Nat.reduceBEq, Nat.reduceBNe, Nat.reduceGT, Int.reduceAdd, Int.reduceSub, Int.reduceMul, Int.reduceNeg, Int.reduceLT, Int.reduceLE, Int.reduceEq, Int.reduceNe, Int.reduceBEq, Int.reduceBNe, Int.reduceToNat, Int.reduceGT, Int.reduceGE, ↓reduceIte, decide_true, decide_false, eq_self, Nat.mul_one, Nat.zero_mul, Nat.one_mul, Int.le_refl, Nat.le_refl, Int.cast_ofNat_Int, fitB, hk, hj0 (by omega), hj1 (by omega), Bool.false_and, Bool.true_and]
      · simp (decide := true) (maxSteps := 4000000) only [go_sem, Nat.reduceAdd, Nat.reduceSub, Nat.reduceMul, Nat.reduceDiv, Nat.reduceMod, Nat.reduceLT, Nat.reduceLeDiff, Nat.reduceEqDiff, Nat.reduceBEq, Nat.reduceBNe, Nat.reduceGT, Int.reduceAdd, Int.reduceSub, Int.reduceMul, Int.reduceNeg, Int.reduceLT, Int.reduceLE, Int.reduceEq, Int.reduceNe, Int.reduceBEq, Int.reduceBNe, Int.reduceToNat, Int.reduceGT, Int.reduceGE, ↓reduceIte, decide_true, decide_false, eq_self, Nat.mul_one, Nat.zero_mul, Nat.one_mul, Int.le_refl, Nat.le_refl, Int.cast_ofNat_Int, d1, hk]
        refine hI1 _ ⟨3, by omega, fun _ => hj0 (by omega), fun _ => hj1 (by omega), fun _ => hk⟩ (by simp only; omega) ?_
        simp (decide := true) (maxSteps := 4000000) only [go_sem, Nat.reduceAdd, Nat.reduceSub, Nat.reduceMul, Nat.reduceDiv, Nat.reduceMod, Nat.reduceLT, Nat.reduceLeDiff, Nat.reduceEqDiff, Nat.reduceBEq, Nat.reduceBNe, Nat.reduceGT, Int.reduceAdd, Int.reduceSub, Int.reduceMul, Int.reduceNeg, Int.reduceLT, Int.reduceLE, Int.reduceEq, Int.reduceNe, Int.reduceBEq, Int.reduceBNe, Int.reduceToNat, Int.reduceGT, Int.reduceGE, ↓reduceIte, decide_true, decide_false, eq_self, Nat.mul_one, Nat.zero_mul, Nat.one_mul, Int.le_refl, Nat.le_refl, Int.cast_ofNat_Int, wl3]
    · have hk0 := hj0 (by omega)
      have hk1 := hj1 (by omega)
      have hk2 := hj2 (by omega)
      simp (decide := true) (maxSteps := 4000000) only [go_sem, Nat.reduceAdd, Nat.reduceSub, Nat.reduceMul, Nat.reduceDiv, Nat.reduceMod, Nat.reduceLT, Nat.reduceLeDiff, Nat.reduceEqDiff, Nat.reduceBEq, Nat.reduceBNe, Nat.reduceGT, Int.reduceAdd, Int.reduceSub, Int.reduceMul, Int.reduceNeg, Int.reduceLT, Int.reduceLE, Int.reduceEq, Int.reduceNe, Int.reduceBEq, Int.reduceBNe, Int.reduceToNat, Int.reduceGT, Int.reduceGE, ↓reduceIte, decide_true, decide_false, eq_self, Nat.mul_one, Nat.zero_mul, Nat.one_mul, Int.le_refl, Nat.le_refl, Int.cast_ofNat_Int]
      refine hQ1 _ _ ?_
      have hfb : fitB bound (k0 == c0) (k1 == c1) (k2 == c2) A B C = (List.range A.length).all fun k => inBd bound (sum3 A B C k) := by unfold fitB; rw [hk0, hk1, hk2]; simp
      rw [hfb]
      simp (decide := true) (maxSteps := 4000000) only [go_sem, Nat.reduceAdd, Nat.reduceSub, Nat.reduceMul, Nat.reduceDiv, Nat.reduceMod, Nat.reduceLT, Nat.reduceLeDiff, Nat.reduceEqDiff, Nat.reduceBEq, Nat.reduceBNe, Nat.reduceGT, Int.reduceAdd, Int.reduceSub, Int.reduceMul, Int.reduceNeg, Int.reduceLT, Int.reduceLE, Int.reduceEq, Int.reduceNe, Int.reduceBEq, Int.reduceBNe, Int.reduceToNat, Int.reduceGT, Int.reduceGE, ↓reduceIte, decide_true, decide_false, eq_self, Nat.mul_one, Nat.zero_mul, Nat.one_mul, Int.le_refl, Nat.le_refl, Int.cast_ofNat_Int]
      refine pwpC_loopU (A := { k : Nat // k ≤ A.length ∧ ∀ j, j < k → inBd bound (sum3 A B C j) = true }) [0, 1, 4, 27] (fun k => [(28, .t (.int .i64 k.1))]) (fun _ => []) (fun k => A.length - k.1) ⟨0, by omega, fun j hj => by omega⟩ (by decide) (fun _ => by rfl) ?_ fun Q2 hQ2 ⟨k, hk, hkk⟩ I2 hI2 => ?_
      · simp (decide := true) (maxSteps := 4000000) only [go_sem, Nat.reduceAdd, Nat.reduceSub, Nat.reduceMul, Nat.reduceDiv, Nat.reduceMod, Nat.reduceLT, Nat.reduceLeDiff, Nat.reduceEqDiff, Nat.reduceBEq, Nat.reduceBNe, Nat.reduceGT, Int.reduceAdd, Int.reduceSub, Int.reduceMul, Int.reduceNeg, Int.reduceLT, Int.reduceLE, Int.reduceEq, Int.reduceNe, Int.reduceBEq, Int.reduceBNe, Int.reduceToNat, Int.reduceGT, Int.reduceGE, ↓reduceIte, decide_true, decide_false, eq_self, Nat.mul_one, Nat.zero_mul, Nat.one_mul, Int.le_refl, Nat.le_refl, Int.cast_ofNat_Int]
      · by_cases hlt : (k : Int) < A.length
        · obtain ⟨x, hx⟩ := get_lt (l := A) (k := k) (by omega)
          obtain ⟨y, hy⟩ := get_lt (l := B) (k := k) (by omega)
          obtain ⟨z, hz⟩ := get_lt (l := C) (k := k) (by omega)
          have dx := flat_at Span.cs (n := 2) (fun _ => rfl) hx
          have dy := flat_at Span.cs (n := 2) (fun _ => rfl) hy
          have dz := flat_at Span.cs (n := 2) (fun _ => rfl) hz
          have bx := bd A hA x (List.mem_of_getElem? hx)
          have by' := bd B hB y (List.mem_of_getElem? hy)
          have bz := bd C hC z (List.mem_of_getElem? hz)
          have hc1 : IntKind.i64.wrap (k + 1) = ((k + 1 : Nat) : Int) := by rw [wrap_in (by omega) (by omega)]; omega
          have hs3 : sum3 A B C k = addS (addS x y) z := by unfold sum3; rw [atS_eq hx, atS_eq hy, atS_eq hz]
          have hun : unS [.int .i64 x.lo, .int .i64 x.hi, .int .i64 y.lo, .int .i64 y.hi, .int .i64 z.lo, .int .i64 z.hi] = some [x, y, z] := unS_eq [x, y, z]
          have hbd : [x, y, z].all bdB = true := by
            have b1 : bdB x = true := bdB_iff.2 (by omega)
            have b2 : bdB y = true := bdB_iff.2 (by omega)
            have b3 : bdB z = true := bdB_iff.2 (by omega)
            simp [b1, b2, b3]
          have hsm : sumL [x, y, z] = addS (addS x y) z := by simp [sumL, addS]
          obtain ⟨S, hS⟩ : ∃ S, addS (addS x y) z = S := ⟨_, rfl⟩
          rw [hS] at hsm hs3
          have w0 : IntKind.i64.wrap (0 - bound) = -bound := by rw [wrap_in (by omega) (by omega)]; omega
          by_cases q1 : S.lo < -bound
          · have hf : ((List.range A.length).all fun k => inBd bound (sum3 A B C k)) = false := by
              rw [List.all_eq_false]
              refine ⟨k, List.mem_range.2 (by omega), ?_⟩
              rw [hs3]; unfold inBd; simp; intro; omega
            simp (decide := true) (maxSteps := 4000000) only [go_sem, Nat.reduceAdd, Nat.reduceSub, Nat.reduceMul, Nat.reduceDiv, Nat.reduceMod, Nat.reduceLT, Nat.reduceLeDiff, Nat.reduceEqDiff, Nat.reduceBEq, Nat.reduceBNe, Nat.reduceGT, Int.reduceAdd, Int.reduceSub, Int.reduceMul, Int.reduceNeg, Int.reduceLT, Int.reduceLE, Int.reduceEq, Int.reduceNe, Int.reduceBEq, Int.reduceBNe, Int.reduceToNat, Int.reduceGT, Int.reduceGE, ↓reduceIte, decide_true, decide_false, eq_self, Nat.mul_one, Nat.zero_mul, Nat.one_mul, Int.le_refl, Nat.le_refl, Int.cast_ofNat_Int, hlt, dx, dy, dz, Span.cs, Span.t, hBl, hCl, Int.toNat_natCast, hun, hbd, hsm, w0, q1]
            refine hQ2 _ _ ?_
            simp (decide := true) (maxSteps := 4000000) only [go_sem, Nat.reduceAdd, Nat.reduceSub, Nat.reduceMul, Nat.reduceDiv, Nat.reduceMod, Nat.reduceLT, Nat.reduceLeDiff, Nat.reduceEqDiff, Nat.reduceBEq, Nat.reduceBNe, Nat.reduceGT, Int.reduceAdd, Int.reduceSub, Int.reduceMul, Int.reduceNeg, Int.reduceLT, Int.reduceLE, Int.reduceEq, Int.reduceNe, Int.reduceBEq, Int.reduceBNe, Int.reduceToNat, Int.reduceGT, Int.reduceGE, ↓reduceIte, decide_true, decide_false, eq_self, Nat.mul_one, Nat.zero_mul, Nat.one_mul, Int.le_refl, Nat.le_refl, Int.cast_ofNat_Int, hf]
          · by_cases q2 : S.hi > bound
            · have hf : ((List.range A.length).all fun k => inBd bound (sum3 A B C k)) = false := by
                rw [List.all_eq_false]
                refine ⟨k, List.mem_range.2 (by omega), ?_⟩
                rw [hs3]; unfold inBd; simp; intro; omega
              simp (decide := true) (maxSteps := 4000000) only [go_sem, Nat.reduceAdd, Nat.reduceSub, Nat.reduceMul, Nat.reduceDiv, Nat.reduceMod, Nat.reduceLT, Nat.reduceLeDiff, Nat.reduceEqDiff, Nat.reduceBEq, Nat.reduceBNe, Nat.reduceGT, Int.reduceAdd, Int.reduceSub, Int.reduceMul, Int.reduceNeg, Int.reduceLT, Int.reduceLE, Int.reduceEq, Int.reduceNe, Int.reduceBEq, Int.reduceBNe, Int.reduceToNat, Int.reduceGT, Int.reduceGE, ↓reduceIte, decide_true, decide_false, eq_self, Nat.mul_one, Nat.zero_mul, Nat.one_mul, Int.le_refl, Nat.le_refl, Int.cast_ofNat_Int, hlt, dx, dy, dz, Span.cs, Span.t, hBl, hCl, Int.toNat_natCast, hun, hbd, hsm, w0, q1, q2]
              refine hQ2 _ _ ?_
              simp (decide := true) (maxSteps := 4000000) only [go_sem, Nat.reduceAdd, Nat.reduceSub, Nat.reduceMul, Nat.reduceDiv, Nat.reduceMod, Nat.reduceLT, Nat.reduceLeDiff, Nat.reduceEqDiff, Nat.reduceBEq, Nat.reduceBNe, Nat.reduceGT, Int.reduceAdd, Int.reduceSub, Int.reduceMul, Int.reduceNeg, Int.reduceLT, Int.reduceLE, Int.reduceEq, Int.reduceNe, Int.reduceBEq, Int.reduceBNe, Int.reduceToNat, Int.reduceGT, Int.reduceGE, ↓reduceIte, decide_true, decide_false, eq_self, Nat.mul_one, Nat.zero_mul, Nat.one_mul, Int.le_refl, Nat.le_refl, Int.cast_ofNat_Int, hf]
            · simp (decide := true) (maxSteps := 4000000) only [go_sem, Nat.reduceAdd, Nat.reduceSub, Nat.reduceMul, Nat.reduceDiv, Nat.reduceMod, Nat.reduceLT, Nat.reduceLeDiff, Nat.reduceEqDiff, Nat.reduceBEq, Nat.reduceBNe, Nat.reduceGT, Int.reduceAdd, Int.reduceSub, Int.reduceMul, Int.reduceNeg, Int.reduceLT, Int.reduceLE, Int.reduceEq, Int.reduceNe, Int.reduceBEq, Int.reduceBNe, Int.reduceToNat, Int.reduceGT, Int.reduceGE, ↓reduceIte, decide_true, decide_false, eq_self, Nat.mul_one, Nat.zero_mul, Nat.one_mul, Int.le_refl, Nat.le_refl, Int.cast_ofNat_Int, hlt, dx, dy, dz, Span.cs, Span.t, hBl, hCl, Int.toNat_natCast, hun, hbd, hsm, w0, q1, q2]
              refine hI2 _ ⟨k + 1, by omega, fun j hj => ?_⟩ (by simp only; omega) ?_
              · by_cases e : j = k
                · subst e; rw [hs3]; unfold inBd; simp; omega
                · exact hkk j (by omega)
              · simp (decide := true) (maxSteps := 4000000) only [go_sem, Nat.reduceAdd, Nat.reduceSub, Nat.reduceMul, Nat.reduceDiv, Nat.reduceMod, Nat.reduceLT, Nat.reduceLeDiff, Nat.reduceEqDiff, Nat.reduceBEq, Nat.reduceBNe, Nat.reduceGT, Int.reduceAdd, Int.reduceSub, Int.reduceMul, Int.reduceNeg, Int.reduceLT, Int.reduceLE, Int.reduceEq, Int.reduceNe, Int.reduceBEq, Int.reduceBNe, Int.reduceToNat, Int.reduceGT, Int.reduceGE, ↓reduceIte, decide_true, decide_false, eq_self, Nat.mul_one, Nat.zero_mul, Nat.one_mul, Int.le_refl, Nat.le_refl, Int.cast_ofNat_Int, hc1, hBl, hCl]
        · have hke : k = A.length := by omega
          have ht : ((List.range A.length).all fun k => inBd bound (sum3 A B C k)) = true := List.all_eq_true.2 fun j hj => hkk j (by rw [hke]; exact List.mem_range.1 hj)
          subst hke
          simp (decide := true) (maxSteps := 4000000) only [go_sem, Nat.reduceAdd, Nat.reduceSub, Nat.reduceMul, Nat.reduceDiv, Nat.reduceMod, Nat.reduceLT, Nat.reduceLeDiff, Nat.reduceEqDiff, Nat.reduceBEq, Nat.reduceBNe, Nat.reduceGT, Int.reduceAdd, Int.reduceSub, Int.reduceMul, Int.reduceNeg, Int.reduceLT, Int.reduceLE, Int.reduceEq, Int.reduceNe, Int.reduceBEq, Int.reduceBNe, Int.reduceToNat, Int.reduceGT, Int.reduceGE, ↓reduceIte, decide_true, decide_false, eq_self, Nat.mul_one, Nat.zero_mul, Nat.one_mul, Int.le_refl, Nat.le_refl, Int.cast_ofNat_Int, hlt]
          refine hQ2 _ _ ?_
          simp (decide := true) (maxSteps := 4000000) only [go_sem, Nat.reduceAdd, Nat.reduceSub, Nat.reduceMul, Nat.reduceDiv, Nat.reduceMod, Nat.reduceLT, Nat.reduceLeDiff, Nat.reduceEqDiff, Nat.reduceBEq, Nat.reduceBNe, Nat.reduceGT, Int.reduceAdd, Int.reduceSub, Int.reduceMul, Int.reduceNeg, Int.reduceLT, Int.reduceLE, Int.reduceEq, Int.reduceNe, Int.reduceBEq, Int.reduceBNe, Int.reduceToNat, Int.reduceGT, Int.reduceGE, ↓reduceIte, decide_true, decide_false, eq_self, Nat.mul_one, Nat.zero_mul, Nat.one_mul, Int.le_refl, Nat.le_refl, Int.cast_ofNat_Int, ht]
theorem sFit_c' (bound k0 k1 k2 p0 p1 p2 c0 c1 c2 : Int) (A B C : List Span) (f0 f1 f2 f : Bool) (hb : 0 ≤ bound ∧ bound ≤ 5000) (hn : 1 ≤ A.length ∧ A.length ≤ 12) (hA : tlAll A A.length = true) (hB : tlAll B A.length = true) (hC : tlAll C A.length = true) :
    PCalls Try.prog 86 [.int .i64 bound, .sl [.int .i64 k0, .int .i64 p0, .sl (A.flatMap Span.cs) A.length f0, .fn 85 [] [.cptr [.int .i64 c0]], .int .i64 k1, .int .i64 p1, .sl (B.flatMap Span.cs) A.length f1, .fn 85 [] [.cptr [.int .i64 c1]],
      .int .i64 k2, .int .i64 p2, .sl (C.flatMap Span.cs) A.length f2, .fn 85 [] [.cptr [.int .i64 c2]]] 3 f] (.bool (fitB bound (k0 == c0) (k1 == c1) (k2 == c2) A B C)) := by
  have := sFit_c bound k0 k1 k2 p0 p1 p2 c0 c1 c2 A B C f0 f1 f2 f hb hn hA hB hC
  have eB : B.length = A.length := by unfold tlAll at hB; simp at hB; exact hB.1
  have eC : C.length = A.length := by unfold tlAll at hC; simp at hC; exact hC.1
  rw [eB, eC] at this
  exact this
noncomputable def sxFit : List TV → Option TV
  | [.int .i64 bound, .sl [.int .i64 k0, .int .i64 p0, .sl us na f0, .fn F0 [] [.cptr [.int .i64 c0]], .int .i64 k1, .int .i64 p1, .sl vs nb f1, .fn F1 [] [.cptr [.int .i64 c1]], .int .i64 k2, .int .i64 p2, .sl ws nc f2, .fn F2 [] [.cptr [.int .i64 c2]]] 3 f] => match unS us, unS vs, unS ws with
    | some A, some B, some C => if (F0 = 85 ∧ F1 = 85 ∧ F2 = 85) ∧ (na = A.length ∧ nb = A.length ∧ nc = A.length) ∧ (0 ≤ bound ∧ bound ≤ 5000) ∧ (1 ≤ A.length ∧ A.length ≤ 12) ∧ tlAll A A.length = true ∧ tlAll B A.length = true ∧ tlAll C A.length = true then
        some (.bool (fitB bound (k0 == c0) (k1 == c1) (k2 == c2) A B C)) else none
    | _, _, _ => none
  | _ => none
theorem sxFit_ok : ∀ xs r, sxFit xs = some r → PCalls Try.prog 86 xs r := by
  intro xs r h
  unfold sxFit at h
  split at h
  · split at h
    · rename_i A B C hA hB hC
      split at h
      · rename_i hc
        cases h
        obtain ⟨⟨rfl, rfl, rfl⟩, ⟨rfl, rfl, rfl⟩, hb, hn, h1, h2, h3⟩ := hc
        rw [unS_some hA, unS_some hB, unS_some hC]
        exact sFit_c' _ _ _ _ _ _ _ _ _ _ A B C _ _ _ _ hb hn h1 h2 h3
      · cases h
    · cases h
  · cases h
attribute [go_sem] sxFit
noncomputable def sxIsStock : List TV → Option TV
  | [s] => match rowL unP s with
    | some l => if l.length ≤ 9000000000000 ∧ l.all decP = true then some (.bool (stockB l)) else none
    | none => none
  | _ => none
theorem sxIsStock_ok : ∀ xs r, sxIsStock xs = some r → PCalls Try.prog 83 xs r := by
  intro xs r h
  unfold sxIsStock at h
  split at h
  · split at h
    · rename_i l hl
      have hl := rowL_some (un := unP) (by first | rfl | exact unP_nil) (@unP_some) hl
      split at h
      · rename_i hc; cases h; exact sIsStock_c hl hc.1 hc.2
      · cases h
    · cases h
  · cases h
attribute [go_sem] sxIsStock
end Go.Proofs.Ytjmkccckohcfkaa

/- Part Ss. -/
namespace Go.Os
open Go Go.Pm Go.Oc Go.Oh
structure AS where
  parts : Option (Nat × Nat × Nat)
  price : Int
def partsT : Option (Nat × Nat × Nat) → TV
  | none => .nilSl
  | some (a, b, c) => .sl [.int .i64 a, .int .i64 b, .int .i64 c] 3 true
noncomputable def prc (l : List Pt) (i : Nat) : Int := match l[i]? with | some x => x.p | none => 0
noncomputable def knd (l : List Pt) (i : Nat) : Int := match l[i]? with | some x => x.k | none => 0
noncomputable def ers (l : List Pt) (i : Nat) : List Span := match l[i]? with | some x => errs x | none => []
noncomputable def cost3 (l : List Pt) (a b c : Nat) : Int := prc l a + prc l b + prc l c
noncomputable def fit3 (bound : Int) (l : List Pt) (a b c : Nat) : Bool := fitB bound (knd l a == 0) (knd l b == 1) (knd l c == 2) (ers l a) (ers l b) (ers l c)
noncomputable def asStep (bound : Int) (l : List Pt) (a b : Nat) (st : AS) (c : Nat) : AS :=
  if (st.parts.isNone || decide (cost3 l a b c < st.price)) && fit3 bound l a b c then ⟨some (a, b, c), cost3 l a b c⟩ else st
noncomputable def asC (bound : Int) (l : List Pt) (a b : Nat) (st : AS) (k : Nat) : AS := (List.range k).foldl (asStep bound l a b) st
noncomputable def asB (bound : Int) (l : List Pt) (a : Nat) (st : AS) (k : Nat) : AS := (List.range k).foldl (fun st b => asC bound l a b st l.length) st
noncomputable def asA (bound : Int) (l : List Pt) (k : Nat) : AS := (List.range k).foldl (fun st a => asB bound l a st l.length) ⟨none, 0⟩
theorem asC_succ (bound : Int) (l : List Pt) (a b : Nat) (st : AS) (k : Nat) : asC bound l a b st (k + 1) = asStep bound l a b (asC bound l a b st k) k := by unfold asC; rw [List.range_succ, List.foldl_append]; rfl
theorem asB_succ (bound : Int) (l : List Pt) (a : Nat) (st : AS) (k : Nat) : asB bound l a st (k + 1) = asC bound l a k (asB bound l a st k) l.length := by unfold asB; rw [List.range_succ, List.foldl_append]; rfl
theorem asA_succ (bound : Int) (l : List Pt) (k : Nat) : asA bound l (k + 1) = asB bound l k (asA bound l k) l.length := by unfold asA; rw [List.range_succ, List.foldl_append]; rfl
/-- What Assemble returns. -/
noncomputable def asmP (l : List Pt) (bound : Int) : TV × Int × Int :=
  if stockB l && inB bound 0 5000 then (if (asA bound l l.length).parts.isNone then (.nilSl, 0, 4) else (partsT (asA bound l l.length).parts, (asA bound l l.length).price, 0)) else (.nilSl, 0, 55)
/-- A part of a stock that is one. -/
theorem stock_at {l : List Pt} (h : stockB l = true) (hd : l.all decP = true) {i : Nat} {x : Pt} (hx : l[i]? = some x) :
    (0 ≤ x.k ∧ x.k ≤ 2) ∧ (0 ≤ x.p ∧ x.p ≤ 1000) ∧ (2 ≤ (errs x).length ∧ (errs x).length ≤ 12) ∧ tlAll (errs x) (firstN l) = true ∧ ∃ f, x.s = .sl ((errs x).flatMap Span.cs) (errs x).length f := by
  unfold stockB at h
  rw [Bool.and_eq_true] at h
  have h2 := List.all_eq_true.1 h.2 x (List.mem_of_getElem? hx)
  unfold ptB at h2
  simp only [Bool.and_eq_true, inB_iff, decide_eq_true_eq] at h2
  obtain ⟨h3, h4, h5, h6, h7⟩ := h2
  obtain ⟨hr, _⟩ := decP_row (List.all_eq_true.1 hd x (List.mem_of_getElem? hx))
  refine ⟨h3, h4, by omega, by unfold tlAll; rw [h6, h7]; simp, hr.ne (by omega)⟩
end Go.Os
namespace Go.Proofs.Ytjmkccckohcfkaa
open Go.RowKit Go.Pm Go.Oc Go.Oh Go.Os
set_option maxRecDepth 100000
set_option linter.unusedVariables false
set_option maxHeartbeats 8000000

noncomputable def spTa : Pm.Spec := { ((((spSa.one 83 sxIsStock).one 84 sxOf).one 86 sxFit)) with fz := fun _ => true }
@[go_sem] theorem spTa_p (f : FuncId) (xs : List TV) : spTa.p f xs = Pm.Spec.p ({ ((((spSa.one 83 sxIsStock).one 84 sxOf).one 86 sxFit)) with fz := fun _ => true }) f xs := rfl
@[go_sem] theorem spTa_h (f : FuncId) (ps : List PV) (hl : List PO) : spTa.h f ps hl = Pm.Spec.h ({ ((((spSa.one 83 sxIsStock).one 84 sxOf).one 86 sxFit)) with fz := fun _ => true }) f ps hl := rfl
@[go_sem] theorem spTa_fz (f : FuncId) : spTa.fz f = Pm.Spec.fz ({ ((((spSa.one 83 sxIsStock).one 84 sxOf).one 86 sxFit)) with fz := fun _ => true }) f := rfl
@[go_sem] theorem spTa_fr (f : FuncId) : spTa.fr f = Pm.Spec.fr ({ ((((spSa.one 83 sxIsStock).one 84 sxOf).one 86 sxFit)) with fz := fun _ => true }) f := rfl
@[go_sem] theorem spTa_mu (t : TypeId) : spTa.mu t = Pm.Spec.mu ({ ((((spSa.one 83 sxIsStock).one 84 sxOf).one 86 sxFit)) with fz := fun _ => true }) t := rfl
@[go_sem] theorem spTa_nf (t : TypeId) : spTa.nf t = Pm.Spec.nf ({ ((((spSa.one 83 sxIsStock).one 84 sxOf).one 86 sxFit)) with fz := fun _ => true }) t := rfl
theorem spTa_ok : SpecOk Try.prog spTa := ⟨(Spec.one_ok sxFit_ok (Spec.one_ok sxOf_ok (Spec.one_ok sxIsStock_ok spSa_ok))).1, (Spec.one_ok sxFit_ok (Spec.one_ok sxOf_ok (Spec.one_ok sxIsStock_ok spSa_ok))).2⟩
theorem sAssemble_c {l : List Pt} {s : TV} (hs : IsRow Pt.cs s l) (ll : l.length ≤ 9000000000000) (hd : l.all decP = true) (bound : Int) : PCalls Try.prog 30 [s, .int .i64 bound] (.tup [(asmP l bound).1, .int .i64 (asmP l bound).2.1, .int .i64 (asmP l bound).2.2]) := by
  have rs := rowP_is hs
  unfold rowL at rs
  simp only [unP_nil] at rs
  refine pcalls_by Try.mixes spTa_ok (fn := Try.f30) Try.func30 rfl (by kernel_rfl) (by show 2 ≤ _; decide) ?_
  unfold asmP
  cases hst : stockB l with
  | false => rcases hs with ⟨rfl, rfl⟩ | ⟨g, rfl⟩ <;> simp (decide := true) (maxSteps := 4000000) only [go_sem, Nat.reduceAdd, Nat.reduceSub, Nat.reduceMul, Nat.reduceDiv, Nat.reduceMod, Nat.reduceLT, Nat.reduceLeDiff, Nat.reduceEqDiff, Nat.reduceBEq, Nat.reduceBNe, Nat.reduceGT, Int.reduceAdd, Int.reduceSub, Int.reduceMul, Int.reduceNeg, Int.reduceLT, Int.reduceLE, Int.reduceEq, Int.reduceNe, Int.reduceBEq, Int.reduceBNe, Int.reduceToNat, Int.reduceGT, Int.reduceGE, ↓reduceIte, decide_true, decide_false, eq_self, Nat.mul_one, Nat.zero_mul, Nat.one_mul, Int.le_refl, Nat.le_refl, Int.cast_ofNat_Int, Try.f30, unP_eq, unP_nil, ll, hd, hst, Bool.false_and]
  | true =>
    have h3 : 3 ≤ l.length ∧ l.length ≤ 12 := by
      unfold stockB at hst
      rw [Bool.and_eq_true, inB_iff] at hst
      omega
    obtain ⟨g, rfl⟩ := hs.ne (by omega)
    cases hbd : inB bound 0 5000 with
    | false => simp (decide := true) (maxSteps := 4000000) only [go_sem, Nat.reduceAdd, Nat.reduceSub, Nat.reduceMul, Nat.reduceDiv, Nat.reduceMod, Nat.reduceLT, Nat.reduceLeDiff, Nat.reduceEqDiff, Nat.reduceBEq, Nat.reduceBNe, Nat.reduceGT, Int.reduceAdd, Int.reduceSub, Int.reduceMul, Int.reduceNeg, Int.reduceLT, Int.reduceLE, Int.reduceEq, Int.reduceNe, Int.reduceBEq, Int.reduceBNe, Int.reduceToNat, Int.reduceGT, Int.reduceGE, ↓reduceIte, decide_true, decide_false, eq_self, Nat.mul_one, Nat.zero_mul, Nat.one_mul, Int.le_refl, Nat.le_refl, Int.cast_ofNat_Int, Try.f30, unP_eq, ll, hd, hst, hbd, Bool.and_false]
    | true =>
      have hb := inB_iff.1 hbd
      simp (decide := true) (maxSteps := 4000000) only [go_sem, Nat.reduceAdd, Nat.reduceSub, Nat.reduceMul, Nat.reduceDiv, Nat.reduceMod, Nat.reduceLT, Nat.reduceLeDiff, Nat.reduceEqDiff, Nat.reduceBEq, Nat.reduceBNe, Nat.reduceGT, Int.reduceAdd, Int.reduceSub, Int.reduceMul, Int.reduceNeg, Int.reduceLT, Int.reduceLE, Int.reduceEq, Int.reduceNe, Int.reduceBEq, Int.reduceBNe, Int.reduceToNat, Int.reduceGT, Int.reduceGE, ↓reduceIte, decide_true, decide_false, eq_self, Nat.mul_one, Nat.zero_mul, Nat.one_mul, Int.le_refl, Nat.le_refl, Int.cast_ofNat_Int, Try.f30, unP_eq, ll, hd, hst, hbd, Bool.and_self]
      refine pwpC_loopU (A := { k : Nat // k ≤ l.length }) [1, 2, 7, 23] (fun k => [(24, .t (.int .i64 k.1)), (4, .t (partsT (asA bound l k.1).parts)), (5, .t (.int .i64 (asA bound l k.1).price))]) (fun _ => []) (fun k => l.length - k.1) ⟨0, by omega⟩ (by decide) (fun _ => by rfl) ?_ fun Q1 hQ1 ⟨a, ha⟩ I1 hI1 => ?_
      · simp (decide := true) (maxSteps := 4000000) only [go_sem, Nat.reduceAdd, Nat.reduceSub, Nat.reduceMul, Nat.reduceDiv, Nat.reduceMod, Nat.reduceLT, Nat.reduceLeDiff, Nat.reduceEqDiff, Nat.reduceBEq, Nat.reduceBNe, Nat.reduceGT, Int.reduceAdd, Int.reduceSub, Int.reduceMul, Int.reduceNeg, Int.reduceLT, Int.reduceLE, Int.reduceEq, Int.reduceNe, Int.reduceBEq, Int.reduceBNe, Int.reduceToNat, Int.reduceGT, Int.reduceGE, ↓reduceIte, decide_true, decide_false, eq_self, Nat.mul_one, Nat.zero_mul, Nat.one_mul, Int.le_refl, Nat.le_refl, Int.cast_ofNat_Int, asA, List.range_zero, List.foldl_nil, partsT]
      · by_cases hlt : (a : Int) < l.length
        · have hca : IntKind.i64.wrap (a + 1) = ((a + 1 : Nat) : Int) := by rw [wrap_in (by omega) (by omega)]; omega
          have hsa := asA_succ bound l a
          obtain ⟨SA, hSA⟩ : ∃ SA, asA bound l a = SA := ⟨_, rfl⟩
          rw [hSA] at hsa
          obtain ⟨pa, hpa⟩ := get_lt (l := l) (k := a) (by omega)
          simp (decide := true) (maxSteps := 4000000) only [go_sem, Nat.reduceAdd, Nat.reduceSub, Nat.reduceMul, Nat.reduceDiv, Nat.reduceMod, Nat.reduceLT, Nat.reduceLeDiff, Nat.reduceEqDiff, Nat.reduceBEq, Nat.reduceBNe, Nat.reduceGT, Int.reduceAdd, Int.reduceSub, Int.reduceMul, Int.reduceNeg, Int.reduceLT, Int.reduceLE, Int.reduceEq, Int.reduceNe, Int.reduceBEq, Int.reduceBNe, Int.reduceToNat, Int.reduceGT, Int.reduceGE, ↓reduceIte, decide_true, decide_false, eq_self, Nat.mul_one, Nat.zero_mul, Nat.one_mul, Int.le_refl, Nat.le_refl, Int.cast_ofNat_Int, hlt, hSA]
          refine pwpC_loopU (A := { k : Nat // k ≤ l.length }) [1, 2, 7, 23, 24, 8, 28] (fun k => [(29, .t (.int .i64 k.1)), (4, .t (partsT (asB bound l a SA k.1).parts)), (5, .t (.int .i64 (asB bound l a SA k.1).price))]) (fun _ => []) (fun k => l.length - k.1) ⟨0, by omega⟩ (by decide) (fun _ => by rfl) ?_ fun Q2 hQ2 ⟨b, hb'⟩ I2 hI2 => ?_
          · simp (decide := true) (maxSteps := 4000000) only [go_sem, Nat.reduceAdd, Nat.reduceSub, Nat.reduceMul, Nat.reduceDiv, Nat.reduceMod, Nat.reduceLT, Nat.reduceLeDiff, Nat.reduceEqDiff, Nat.reduceBEq, Nat.reduceBNe, Nat.reduceGT, Int.reduceAdd, Int.reduceSub, Int.reduceMul, Int.reduceNeg, Int.reduceLT, Int.reduceLE, Int.reduceEq, Int.reduceNe, Int.reduceBEq, Int.reduceBNe, Int.reduceToNat, Int.reduceGT, Int.reduceGE, ↓reduceIte, decide_true, decide_false, eq_self, Nat.mul_one, Nat.zero_mul, Nat.one_mul, Int.le_refl, Nat.le_refl, Int.cast_ofNat_Int, asB, List.range_zero, List.foldl_nil]
          · by_cases hlt2 : (b : Int) < l.length
            · have hcb : IntKind.i64.wrap (b + 1) = ((b + 1 : Nat) : Int) := by rw [wrap_in (by omega) (by omega)]; omega
              have hsb := asB_succ bound l a SA b
              obtain ⟨SB, hSB⟩ : ∃ SB, asB bound l a SA b = SB := ⟨_, rfl⟩
              rw [hSB] at hsb
              obtain ⟨pb, hpb⟩ := get_lt (l := l) (k := b) (by omega)
              simp (decide := true) (maxSteps := 4000000) only [go_sem, Nat.reduceAdd, Nat.reduceSub, Nat.reduceMul, Nat.reduceDiv, Nat.reduceMod, Nat.reduceLT, Nat.reduceLeDiff, Nat.reduceEqDiff, Nat.reduceBEq, Nat.reduceBNe, Nat.reduceGT, Int.reduceAdd, Int.reduceSub, Int.reduceMul, Int.reduceNeg, Int.reduceLT, Int.reduceLE, Int.reduceEq, Int.reduceNe, Int.reduceBEq, Int.reduceBNe, Int.reduceToNat, Int.reduceGT, Int.reduceGE, ↓reduceIte, decide_true, decide_false, eq_self, Nat.mul_one, Nat.zero_mul, Nat.one_mul, Int.le_refl, Nat.le_refl, Int.cast_ofNat_Int, hlt2, hSB]
              refine pwpC_loopU (A := { k : Nat // k ≤ l.length }) [1, 2, 7, 23, 24, 8, 28, 29, 9, 33] (fun k => [(34, .t (.int .i64 k.1)), (4, .t (partsT (asC bound l a b SB k.1).parts)), (5, .t (.int .i64 (asC bound l a b SB k.1).price))]) (fun _ => []) (fun k => l.length - k.1) ⟨0, by omega⟩ (by decide) (fun _ => by rfl) ?_ fun Q3 hQ3 ⟨c, hc'⟩ I3 hI3 => ?_
              · simp (decide := true) (maxSteps := 4000000) only [go_sem, Nat.reduceAdd, Nat.reduceSub, Nat.reduceMul, Nat.reduceDiv, Nat.reduceMod, Nat.reduceLT, Nat.reduceLeDiff, Nat.reduceEqDiff, Nat.reduceBEq, Nat.reduceBNe, Nat.reduceGT, Int.reduceAdd, Int.reduceSub, Int.reduceMul, Int.reduceNeg, Int.reduceLT, Int.reduceLE, Int.reduceEq, Int.reduceNe, Int.reduceBEq, Int.reduceBNe, Int.reduceToNat, Int.reduceGT, Int.reduceGE, ↓reduceIte, decide_true, decide_false, eq_self, Nat.mul_one, Nat.zero_mul, Nat.one_mul, Int.le_refl, Nat.le_refl, Int.cast_ofNat_Int, asC, List.range_zero, List.foldl_nil]
              · by_cases hlt3 : (c : Int) < l.length
                · have hcc : IntKind.i64.wrap (c + 1) = ((c + 1 : Nat) : Int) := by rw [wrap_in (by omega) (by omega)]; omega
                  have hsc := asC_succ bound l a b SB c
                  obtain ⟨pc, hpc⟩ := get_lt (l := l) (k := c) (by omega)
                  have da := flat_at Pt.cs (n := 3) (fun _ => rfl) hpa
                  have db := flat_at Pt.cs (n := 3) (fun _ => rfl) hpb
                  have dc := flat_at Pt.cs (n := 3) (fun _ => rfl) hpc
                  obtain ⟨ga1, ga2, ga3, ga4, fa, ga5⟩ := stock_at hst hd hpa
                  obtain ⟨gb1, gb2, gb3, gb4, fb, gb5⟩ := stock_at hst hd hpb
                  obtain ⟨gc1, gc2, gc3, gc4, fc, gc5⟩ := stock_at hst hd hpc
                  have hcost : cost3 l a b c = pa.p + pb.p + pc.p := by unfold cost3 prc; rw [hpa, hpb, hpc]
                  have hfit : fit3 bound l a b c = fitB bound (pa.k == 0) (pb.k == 1) (pc.k == 2) (errs pa) (errs pb) (errs pc) := by unfold fit3 knd ers; rw [hpa, hpb, hpc]
                  have ea : (errs pa).length = firstN l := by unfold tlAll at ga4; simp at ga4; exact ga4.1
                  have eb : (errs pb).length = firstN l := by unfold tlAll at gb4; simp at gb4; exact gb4.1
                  have ec : (errs pc).length = firstN l := by unfold tlAll at gc4; simp at gc4; exact gc4.1
                  obtain ⟨F, hF⟩ : ∃ F, firstN l = F := ⟨_, rfl⟩
                  rw [hF] at ga4 gb4 gc4 ea eb ec
                  have w1 : IntKind.i64.wrap (pa.p + pb.p) = pa.p + pb.p := wrap_in (by omega) (by omega)
                  have w2 : IntKind.i64.wrap (pa.p + pb.p + pc.p) = cost3 l a b c := by rw [hcost]; exact wrap_in (by omega) (by omega)
                  have hF12 : 1 ≤ F ∧ F ≤ 12 := by omega
                  obtain ⟨CO, hCO⟩ : ∃ CO, cost3 l a b c = CO := ⟨_, rfl⟩
                  obtain ⟨FI, hFI⟩ : ∃ FI, fit3 bound l a b c = FI := ⟨_, rfl⟩
                  rw [hFI] at hfit
                  rw [hCO] at w2
                  obtain ⟨ST, hST⟩ : ∃ ST, asC bound l a b SB c = ST := ⟨_, rfl⟩
                  rw [hST] at hsc
                  unfold asStep at hsc
                  rw [hCO, hFI] at hsc
                  obtain ⟨P, pr⟩ := ST
                  cases P with
                  | none =>
                    simp (decide := true) (maxSteps := 4000000) only [go_sem, Nat.reduceAdd, Nat.reduceSub, Nat.reduceMul, Nat.reduceDiv, Nat.reduceMod, Nat.reduceLT, Nat.reduceLeDiff, Nat.reduceEqDiff, Nat.reduceBEq, Nat.reduceBNe, Nat.reduceGT, Int.reduceAdd, Int.reduceSub, Int.reduceMul, Int.reduceNeg, Int.reduceLT, Int.reduceLE, Int.reduceEq, Int.reduceNe, Int.reduceBEq, Int.reduceBNe, Int.reduceToNat, Int.reduceGT, Int.reduceGE, ↓reduceIte, decide_true, decide_false, eq_self, Nat.mul_one, Nat.zero_mul, Nat.one_mul, Int.le_refl, Nat.le_refl, Int.cast_ofNat_Int, hlt, hlt2, hlt3, hST, partsT, hpa, hpb, hpc, unP_eq, unS_eq, ga5, gb5, gc5, ea, eb, ec, da, db, dc, Pt.cs, Int.toNat_natCast, w1, w2, hb, hF12, ga4, gb4, gc4, ← hfit]
                    cases FI with
                    | false =>
                      simp (decide := true) (maxSteps := 4000000) only [go_sem, Nat.reduceAdd, Nat.reduceSub, Nat.reduceMul, Nat.reduceDiv, Nat.reduceMod, Nat.reduceLT, Nat.reduceLeDiff, Nat.reduceEqDiff, Nat.reduceBEq, Nat.reduceBNe, Nat.reduceGT, Int.reduceAdd, Int.reduceSub, Int.reduceMul, Int.reduceNeg, Int.reduceLT, Int.reduceLE, Int.reduceEq, Int.reduceNe, Int.reduceBEq, Int.reduceBNe, Int.reduceToNat, Int.reduceGT, Int.reduceGE, ↓reduceIte, decide_true, decide_false, eq_self, Nat.mul_one, Nat.zero_mul, Nat.one_mul, Int.le_refl, Nat.le_refl, Int.cast_ofNat_Int]
                      refine hI3 _ ⟨c + 1, by omega⟩ (by simp only; omega) ?_
                      simp (decide := true) (maxSteps := 4000000) only [go_sem, Nat.reduceAdd, Nat.reduceSub, Nat.reduceMul, Nat.reduceDiv, Nat.reduceMod, Nat.reduceLT, Nat.reduceLeDiff, Nat.reduceEqDiff, Nat.reduceBEq, Nat.reduceBNe, Nat.reduceGT, Int.reduceAdd, Int.reduceSub, Int.reduceMul, Int.reduceNeg, Int.reduceLT, Int.reduceLE, Int.reduceEq, Int.reduceNe, Int.reduceBEq, Int.reduceBNe, Int.reduceToNat, Int.reduceGT, Int.reduceGE, ↓reduceIte, decide_true, decide_false, eq_self, Nat.mul_one, Nat.zero_mul, Nat.one_mul, Int.le_refl, Nat.le_refl, Int.cast_ofNat_Int, hcc, hsc, Option.isNone_none, Bool.true_or, Bool.true_and, Bool.and_false, partsT]
                    | true =>
                      simp (decide := true) (maxSteps := 4000000) only [go_sem, Nat.reduceAdd, Nat.reduceSub, Nat.reduceMul, Nat.reduceDiv, Nat.reduceMod, Nat.reduceLT, Nat.reduceLeDiff, Nat.reduceEqDiff, Nat.reduceBEq, Nat.reduceBNe, Nat.reduceGT, Int.reduceAdd, Int.reduceSub, Int.reduceMul, Int.reduceNeg, Int.reduceLT, Int.reduceLE, Int.reduceEq, Int.reduceNe, Int.reduceBEq, Int.reduceBNe, Int.reduceToNat, Int.reduceGT, Int.reduceGE, ↓reduceIte, decide_true, decide_false, eq_self, Nat.mul_one, Nat.zero_mul, Nat.one_mul, Int.le_refl, Nat.le_refl, Int.cast_ofNat_Int]
                      refine hI3 _ ⟨c + 1, by omega⟩ (by simp only; omega) ?_
                      simp (decide := true) (maxSteps := 4000000) only [go_sem, Nat.reduceAdd, Nat.reduceSub, Nat.reduceMul, Nat.reduceDiv, Nat.reduceMod, Nat.reduceLT, Nat.reduceLeDiff, Nat.reduceEqDiff, Nat.reduceBEq, Nat.reduceBNe, Nat.reduceGT, Int.reduceAdd, Int.reduceSub, Int.reduceMul, Int.reduceNeg, Int.reduceLT, Int.reduceLE, Int.reduceEq, Int.reduceNe, Int.reduceBEq, Int.reduceBNe, Int.reduceToNat, Int.reduceGT, Int.reduceGE, ↓reduceIte, decide_true, decide_false, eq_self, Nat.mul_one, Nat.zero_mul, Nat.one_mul, Int.le_refl, Nat.le_refl, Int.cast_ofNat_Int, hcc, hsc, Option.isNone_none, Bool.true_or, Bool.true_and, Bool.and_true, partsT]
                  | some P =>
                    obtain ⟨P1, P2, P3⟩ := P
                    simp (decide := true) (maxSteps := 4000000) only [go_sem, Nat.reduceAdd, Nat.reduceSub, Nat.reduceMul, Nat.reduceDiv, Nat.reduceMod, Nat.reduceLT, Nat.reduceLeDiff, Nat.reduceEqDiff, Nat.reduceBEq, Nat.reduceBNe, Nat.reduceGT, Int.reduceAdd, Int.reduceSub, Int.reduceMul, Int.reduceNeg, Int.reduceLT, Int.reduceLE, Int.reduceEq, Int.reduceNe, Int.reduceBEq, Int.reduceBNe, Int.reduceToNat, Int.reduceGT, Int.reduceGE, ↓reduceIte, decide_true, decide_false, eq_self, Nat.mul_one, Nat.zero_mul, Nat.one_mul, Int.le_refl, Nat.le_refl, Int.cast_ofNat_Int, hlt, hlt2, hlt3, hST, partsT, hpa, hpb, hpc, unP_eq, unS_eq, ga5, gb5, gc5, ea, eb, ec, da, db, dc, Pt.cs, Int.toNat_natCast, w1, w2, hb, hF12, ga4, gb4, gc4, ← hfit]
                    by_cases hlt4 : CO < pr
                    · cases FI with
                      | false =>
                        simp (decide := true) (maxSteps := 4000000) only [go_sem, Nat.reduceAdd, Nat.reduceSub, Nat.reduceMul, Nat.reduceDiv, Nat.reduceMod, Nat.reduceLT, Nat.reduceLeDiff, Nat.reduceEqDiff, Nat.reduceBEq, Nat.reduceBNe, Nat.reduceGT, Int.reduceAdd, Int.reduceSub, Int.reduceMul, Int.reduceNeg, Int.reduceLT, Int.reduceLE, Int.reduceEq, Int.reduceNe, Int.reduceBEq, Int.reduceBNe, Int.reduceToNat, Int.reduceGT, Int.reduceGE, ↓reduceIte, decide_true, decide_false, eq_self, Nat.mul_one, Nat.zero_mul, Nat.one_mul, Int.le_refl, Nat.le_refl, Int.cast_ofNat_Int, hlt4, Bool.and_false]
                        refine hI3 _ ⟨c + 1, by omega⟩ (by simp only; omega) ?_
                        simp (decide := true) (maxSteps := 4000000) only [go_sem, Nat.reduceAdd, Nat.reduceSub, Nat.reduceMul, Nat.reduceDiv, Nat.reduceMod, Nat.reduceLT, Nat.reduceLeDiff, Nat.reduceEqDiff, Nat.reduceBEq, Nat.reduceBNe, Nat.reduceGT, Int.reduceAdd, Int.reduceSub, Int.reduceMul, Int.reduceNeg, Int.reduceLT, Int.reduceLE, Int.reduceEq, Int.reduceNe, Int.reduceBEq, Int.reduceBNe, Int.reduceToNat, Int.reduceGT, Int.reduceGE, ↓reduceIte, decide_true, decide_false, eq_self, Nat.mul_one, Nat.zero_mul, Nat.one_mul, Int.le_refl, Nat.le_refl, Int.cast_ofNat_Int, hcc, hsc, Option.isNone_some, Bool.false_or, Bool.and_false, partsT]
                      | true =>
                        simp (decide := true) (maxSteps := 4000000) only [go_sem, Nat.reduceAdd, Nat.reduceSub, Nat.reduceMul, Nat.reduceDiv, Nat.reduceMod, Nat.reduceLT, Nat.reduceLeDiff, Nat.reduceEqDiff, Nat.reduceBEq, Nat.reduceBNe, Nat.reduceGT, Int.reduceAdd, Int.reduceSub, Int.reduceMul, Int.reduceNeg, Int.reduceLT, Int.reduceLE, Int.reduceEq, Int.reduceNe, Int.reduceBEq, Int.reduceBNe, Int.reduceToNat, Int.reduceGT, Int.reduceGE, ↓reduceIte, decide_true, decide_false, eq_self, Nat.mul_one, Nat.zero_mul, Nat.one_mul, Int.le_refl, Nat.le_refl, Int.cast_ofNat_Int, hlt4, Bool.and_true]
                        refine hI3 _ ⟨c + 1, by omega⟩ (by simp only; omega) ?_
                        simp (decide := true) (maxSteps := 4000000) only [go_sem, Nat.reduceAdd, Nat.reduceSub, Nat.reduceMul, Nat.reduceDiv, Nat.reduceMod, Nat.reduceLT, Nat.reduceLeDiff, Nat.reduceEqDiff, Nat.reduceBEq, Nat.reduceBNe, Nat.reduceGT, Int.reduceAdd, Int.reduceSub, Int.reduceMul, Int.reduceNeg, Int.reduceLT, Int.reduceLE, Int.reduceEq, Int.reduceNe, Int.reduceBEq, Int.reduceBNe, Int.reduceToNat, Int.reduceGT, Int.reduceGE, ↓reduceIte, decide_true, decide_false, eq_self, Nat.mul_one, Nat.zero_mul, Nat.one_mul, Int.le_refl, Nat.le_refl, Int.cast_ofNat_Int, hcc, hsc, hlt4, Option.isNone_some, Bool.false_or, Bool.and_true, partsT]
                    · simp (decide := true) (maxSteps := 4000000) only [go_sem, Nat.reduceAdd, Nat.reduceSub, Nat.reduceMul, Nat.reduceDiv, Nat.reduceMod, Nat.reduceLT, Nat.reduceLeDiff, Nat.reduceEqDiff, Nat.reduceBEq, Nat.reduceBNe, Nat.reduceGT, Int.reduceAdd, Int.reduceSub, Int.reduceMul, Int.reduceNeg, Int.reduceLT, Int.reduceLE, Int.reduceEq, Int.reduceNe, Int.reduceBEq, Int.reduceBNe, Int.reduceToNat, Int.reduceGT, Int.reduceGE, ↓reduceIte, decide_true, decide_false, eq_self, Nat.mul_one, Nat.zero_mul, Nat.one_mul, Int.le_refl, Nat.le_refl, Int.cast_ofNat_Int, hlt4, Bool.false_and]
                      refine hI3 _ ⟨c + 1, by omega⟩ (by simp only; omega) ?_
                      simp (decide := true) (maxSteps := 4000000) only [go_sem, Nat.reduceAdd, Nat.reduceSub, Nat.reduceMul, Nat.reduceDiv, Nat.reduceMod, Nat.reduceLT, Nat.reduceLeDiff, Nat.reduceEqDiff, Nat.reduceBEq, Nat.reduceBNe, Nat.reduceGT, Int.reduceAdd, Int.reduceSub, Int.reduceMul, Int.reduceNeg, Int.reduceLT, Int.reduceLE, Int.reduceEq, Int.reduceNe, Int.reduceBEq, Int.reduceBNe, Int.reduceToNat, Int.reduceGT, Int.reduceGE, ↓reduceIte, decide_true, decide_false, eq_self, Nat.mul_one, Nat.zero_mul, Nat.one_mul, Int.le_refl, Nat.le_refl, Int.cast_ofNat_Int, hcc, hsc, hlt4, Option.isNone_some, Bool.false_or, Bool.false_and, partsT]
                · have hke : c = l.length := by omega
                  subst hke
                  simp (decide := true) (maxSteps := 4000000) only [go_sem, Nat.reduceAdd, Nat.reduceSub, Nat.reduceMul, Nat.reduceDiv, Nat.reduceMod, Nat.reduceLT, Nat.reduceLeDiff, Nat.reduceEqDiff, Nat.reduceBEq, Nat.reduceBNe, Nat.reduceGT, Int.reduceAdd, Int.reduceSub, Int.reduceMul, Int.reduceNeg, Int.reduceLT, Int.reduceLE, Int.reduceEq, Int.reduceNe, Int.reduceBEq, Int.reduceBNe, Int.reduceToNat, Int.reduceGT, Int.reduceGE, ↓reduceIte, decide_true, decide_false, eq_self, Nat.mul_one, Nat.zero_mul, Nat.one_mul, Int.le_refl, Nat.le_refl, Int.cast_ofNat_Int, hlt3]
                  refine hQ3 _ _ ?_
                  simp (decide := true) (maxSteps := 4000000) only [go_sem, Nat.reduceAdd, Nat.reduceSub, Nat.reduceMul, Nat.reduceDiv, Nat.reduceMod, Nat.reduceLT, Nat.reduceLeDiff, Nat.reduceEqDiff, Nat.reduceBEq, Nat.reduceBNe, Nat.reduceGT, Int.reduceAdd, Int.reduceSub, Int.reduceMul, Int.reduceNeg, Int.reduceLT, Int.reduceLE, Int.reduceEq, Int.reduceNe, Int.reduceBEq, Int.reduceBNe, Int.reduceToNat, Int.reduceGT, Int.reduceGE, ↓reduceIte, decide_true, decide_false, eq_self, Nat.mul_one, Nat.zero_mul, Nat.one_mul, Int.le_refl, Nat.le_refl, Int.cast_ofNat_Int]
                  refine hI2 _ ⟨b + 1, by omega⟩ (by simp only; omega) ?_
                  simp (decide := true) (maxSteps := 4000000) only [go_sem, Nat.reduceAdd, Nat.reduceSub, Nat.reduceMul, Nat.reduceDiv, Nat.reduceMod, Nat.reduceLT, Nat.reduceLeDiff, Nat.reduceEqDiff, Nat.reduceBEq, Nat.reduceBNe, Nat.reduceGT, Int.reduceAdd, Int.reduceSub, Int.reduceMul, Int.reduceNeg, Int.reduceLT, Int.reduceLE, Int.reduceEq, Int.reduceNe, Int.reduceBEq, Int.reduceBNe, Int.reduceToNat, Int.reduceGT, Int.reduceGE, ↓reduceIte, decide_true, decide_false, eq_self, Nat.mul_one, Nat.zero_mul, Nat.one_mul, Int.le_refl, Nat.le_refl, Int.cast_ofNat_Int, hcb, hsb]
            · have hke : b = l.length := by omega
              subst hke
              simp (decide := true) (maxSteps := 4000000) only [go_sem, Nat.reduceAdd, Nat.reduceSub, Nat.reduceMul, Nat.reduceDiv, Nat.reduceMod, Nat.reduceLT, Nat.reduceLeDiff, Nat.reduceEqDiff, Nat.reduceBEq, Nat.reduceBNe, Nat.reduceGT, Int.reduceAdd, Int.reduceSub, Int.reduceMul, Int.reduceNeg, Int.reduceLT, Int.reduceLE, Int.reduceEq, Int.reduceNe, Int.reduceBEq, Int.reduceBNe, Int.reduceToNat, Int.reduceGT, Int.reduceGE, ↓reduceIte, decide_true, decide_false, eq_self, Nat.mul_one, Nat.zero_mul, Nat.one_mul, Int.le_refl, Nat.le_refl, Int.cast_ofNat_Int, hlt2]
              refine hQ2 _ _ ?_
              simp (decide := true) (maxSteps := 4000000) only [go_sem, Nat.reduceAdd, Nat.reduceSub, Nat.reduceMul, Nat.reduceDiv, Nat.reduceMod, Nat.reduceLT, Nat.reduceLeDiff, Nat.reduceEqDiff, Nat.reduceBEq, Nat.reduceBNe, Nat.reduceGT, Int.reduceAdd, Int.reduceSub, Int.reduceMul, Int.reduceNeg, Int.reduceLT, Int.reduceLE, Int.reduceEq, Int.reduceNe, Int.reduceBEq, Int.reduceBNe, Int.reduceToNat, Int.reduceGT, Int.reduceGE, ↓reduceIte, decide_true, decide_false, eq_self, Nat.mul_one, Nat.zero_mul, Nat.one_mul, Int.le_refl, Nat.le_refl, Int.cast_ofNat_Int]
              refine hI1 _ ⟨a + 1, by omega⟩ (by simp only; omega) ?_
              simp (decide := true) (maxSteps := 4000000) only [go_sem, Nat.reduceAdd, Nat.reduceSub, Nat.reduceMul, Nat.reduceDiv, Nat.reduceMod, Nat.reduceLT, Nat.reduceLeDiff, Nat.reduceEqDiff, Nat.reduceBEq, Nat.reduceBNe, Nat.reduceGT, Int.reduceAdd, Int.reduceSub, Int.reduceMul, Int.reduceNeg, Int.reduceLT, Int.reduceLE, Int.reduceEq, Int.reduceNe, Int.reduceBEq, Int.reduceBNe, Int.reduceToNat, Int.reduceGT, Int.reduceGE, ↓reduceIte, decide_true, decide_false, eq_self, Nat.mul_one, Nat.zero_mul, Nat.one_mul, Int.le_refl, Nat.le_refl, Int.cast_ofNat_Int, hca, hsa]
        · have hke : a = l.length := by omega
          subst hke
          simp (decide := true) (maxSteps := 4000000) only [go_sem, Nat.reduceAdd, Nat.reduceSub, Nat.reduceMul, Nat.reduceDiv, Nat.reduceMod, Nat.reduceLT, Nat.reduceLeDiff, Nat.reduceEqDiff, Nat.reduceBEq, Nat.reduceBNe, Nat.reduceGT, Int.reduceAdd, Int.reduceSub, Int.reduceMul, Int.reduceNeg, Int.reduceLT, Int.reduceLE, Int.reduceEq, Int.reduceNe, Int.reduceBEq, Int.reduceBNe, Int.reduceToNat, Int.reduceGT, Int.reduceGE, ↓reduceIte, decide_true, decide_false, eq_self, Nat.mul_one, Nat.zero_mul, Nat.one_mul, Int.le_refl, Nat.le_refl, Int.cast_ofNat_Int, hlt]
          refine hQ1 _ _ ?_
          obtain ⟨ST, hST⟩ : ∃ ST, asA bound l l.length = ST := ⟨_, rfl⟩
          rw [hST]
          obtain ⟨P, pr⟩ := ST
          cases P with
          | none => simp (decide := true) (maxSteps := 4000000) only [go_sem, Nat.reduceAdd, Nat.reduceSub, Nat.reduceMul, Nat.reduceDiv, Nat.reduceMod, Nat.reduceLT, Nat.reduceLeDiff, Nat.reduceEqDiff, Nat.reduceBEq, Nat.reduceBNe, Nat.reduceGT, Int.reduceAdd, Int.reduceSub, Int.reduceMul, Int.reduceNeg, Int.reduceLT, Int.reduceLE, Int.reduceEq, Int.reduceNe, Int.reduceBEq, Int.reduceBNe, Int.reduceToNat, Int.reduceGT, Int.reduceGE, ↓reduceIte, decide_true, decide_false, eq_self, Nat.mul_one, Nat.zero_mul, Nat.one_mul, Int.le_refl, Nat.le_refl, Int.cast_ofNat_Int, partsT, Option.isNone_none]
          | some P =>
            obtain ⟨a, b, c⟩ := P
            simp (decide := true) (maxSteps := 4000000) only [go_sem, Nat.reduceAdd, Nat.reduceSub, Nat.reduceMul, Nat.reduceDiv, Nat.reduceMod, Nat.reduceLT, Nat.reduceLeDiff, Nat.reduceEqDiff, Nat.reduceBEq, Nat.reduceBNe, Nat.reduceGT, Int.reduceAdd, Int.reduceSub, Int.reduceMul, Int.reduceNeg, Int.reduceLT, Int.reduceLE, Int.reduceEq, Int.reduceNe, Int.reduceBEq, Int.reduceBNe, Int.reduceToNat, Int.reduceGT, Int.reduceGE, ↓reduceIte, decide_true, decide_false, eq_self, Nat.mul_one, Nat.zero_mul, Nat.one_mul, Int.le_refl, Nat.le_refl, Int.cast_ofNat_Int, partsT, Option.isNone_some]
end Go.Proofs.Ytjmkccckohcfkaa

/- Part Oa. -/
namespace Go.Os
open Go Go.Pm Go.Oc Go.Oh
set_option maxRecDepth 100000
/-- The errors of a part, read by a program. -/
def unSc : List TV → Option (List Span)
  | [] => some []
  | .int .i64 a :: .int .i64 b :: r => (unSc r).map (⟨a, b⟩ :: ·)
  | _ => none
theorem unSc_eq : ∀ l : List Span, unSc (l.flatMap Span.cs) = some l
  | [] => rfl
  | p :: l => by
    rw [List.flatMap_cons]
    show (unSc (l.flatMap Span.cs)).map _ = _
    rw [unSc_eq l]; rfl
theorem unSc_some : ∀ {cs : List TV} {l : List Span}, unSc cs = some l → cs = l.flatMap Span.cs := by
  intro cs
  fun_induction unSc cs with
  | case1 => intro l h; cases h; rfl
  | case2 a b r ih =>
    intro l h
    cases hr : unSc r with
    | none => rw [hr] at h; cases h
    | some m =>
      rw [hr] at h
      cases h
      rw [List.flatMap_cons, ← ih hr]; rfl
  | case3 => intro l h; cases h
theorem unS_c (cs : List TV) : unS cs = unSc cs := by
  cases h : unSc cs with
  | some l => rw [unSc_some h]; exact unS_eq l
  | none =>
    cases h' : unS cs with
    | none => rfl
    | some l => rw [unS_some h', unSc_eq] at h; cases h
def errsC (x : Pt) : List Span := match x.s with
  | .sl cs n _ => match unSc cs with
    | some l => if n = l.length then l else []
    | none => []
  | _ => []
theorem errs_c : errs = errsC := by
  funext x
  unfold errs errsC rowL
  cases x.s <;> simp only [unS_c] <;> try rfl
  rename_i cs n f
  cases unSc cs with
  | none => rfl
  | some l => by_cases h : n = l.length <;> simp [h]
def ptG (er : Pt → List Span) (n : Nat) (x : Pt) : Bool := inB x.k 0 2 && (inB x.p 0 1000 && (inB (er x).length 2 12 && (decide ((er x).length = n) && (er x).all (spannedB · (-1000) 1000))))
def firstG (er : Pt → List Span) (l : List Pt) : Nat := match l[0]? with | some x => (er x).length | none => 0
def stockG (er : Pt → List Span) (l : List Pt) : Bool := inB l.length 3 12 && l.all (ptG er (firstG er l))
def prcG (l : List Pt) (i : Nat) : Int := match l[i]? with | some x => x.p | none => 0
def kndG (l : List Pt) (i : Nat) : Int := match l[i]? with | some x => x.k | none => 0
def ersG (er : Pt → List Span) (l : List Pt) (i : Nat) : List Span := match l[i]? with | some x => er x | none => []
def costG (l : List Pt) (a b c : Nat) : Int := prcG l a + prcG l b + prcG l c
def fitG (er : Pt → List Span) (bound : Int) (l : List Pt) (a b c : Nat) : Bool := fitB bound (kndG l a == 0) (kndG l b == 1) (kndG l c == 2) (ersG er l a) (ersG er l b) (ersG er l c)
def stepG (er : Pt → List Span) (bound : Int) (l : List Pt) (a b : Nat) (st : AS) (c : Nat) : AS :=
  if (st.parts.isNone || decide (costG l a b c < st.price)) && fitG er bound l a b c then ⟨some (a, b, c), costG l a b c⟩ else st
def asG (er : Pt → List Span) (bound : Int) (l : List Pt) : AS := (List.range l.length).foldl (fun st a => (List.range l.length).foldl (fun st b => (List.range l.length).foldl (stepG er bound l a b) st) st) ⟨none, 0⟩
theorem asA_G (bound : Int) (l : List Pt) : asA bound l l.length = asG errs bound l := rfl
def asmN (er : Pt → List Span) (l : List Pt) (bound : Int) : Option (Nat × Nat × Nat) × Int × Int :=
  if stockG er l && inB bound 0 5000 then (if (asG er bound l).parts.isNone then (none, 0, 4) else ((asG er bound l).parts, (asG er bound l).price, 0)) else (none, 0, 55)
theorem asmP_N (l : List Pt) (bound : Int) : asmP l bound = (partsT (asmN errsC l bound).1, (asmN errsC l bound).2.1, (asmN errsC l bound).2.2) := by
  rw [← errs_c]
  unfold asmP asmN
  rw [asA_G, show stockB l = stockG errs l from rfl]
  split
  · split <;> rfl
  · rfl
def ownX : Sx := ⟨36000, [⟨0, 0⟩, ⟨-10, 10⟩, ⟨20, 40⟩], ⟨-30, -20⟩, 5, [⟨0, 6⟩, ⟨-4, 4⟩]⟩
def sunsX : List Sun := [⟨1915, 1865⟩, ⟨1912, 1862⟩]
def trialsX : List Tr := [⟨36000, 0, 35985⟩, ⟨72000, 0, 72010⟩, ⟨36000, 0, 35960⟩]
def rw2 (a b c d : Int) : TV := .sl [.int .i64 a, .int .i64 b, .int .i64 c, .int .i64 d] 2 true
def stockX : List Pt := [⟨0, 50, rw2 0 4 0 10⟩, ⟨0, 30, rw2 (-3) 3 (-12) 12⟩, ⟨1, 20, rw2 0 0 2 6⟩, ⟨2, 10, rw2 (-2) 2 (-2) 2⟩, ⟨2, 25, rw2 0 1 0 1⟩]
deriving instance DecidableEq for Span
theorem exRead : readP ownX 54000 1 = (⟨53970, 54016⟩, 0) := by decide +kernel
theorem exIndex : indexP ownX ⟨1880, 1900⟩ sunsX = (⟨-28, -22⟩, ⟨1885, 1892⟩, 0) := by decide +kernel
theorem exTrial : trialP ownX (trialsX.take 2) = ([⟨0, 0⟩, ⟨0, 10⟩, ⟨25, 40⟩], ⟨-30, -20⟩, 0) := by decide +kernel
theorem exFalse : falseP ownX trialsX = ([0, 2], 0) := by decide +kernel
theorem exClass : classP ownX = (2, 54, 0) := by decide +kernel
theorem exStock : stockX.all decP = true := by
  have e : ∀ x ∈ stockX, decP x = true := fun x hx => by
    unfold decP rowL
    simp only [unS_c]
    unfold stockX at hx
    simp only [List.mem_cons, List.not_mem_nil, or_false] at hx
    rcases hx with rfl | rfl | rfl | rfl | rfl <;> decide
  exact List.all_eq_true.2 e
theorem exAsm : asmP stockX 20 = (.sl [.int .i64 1, .int .i64 2, .int .i64 3] 3 true, 60, 0) := by
  rw [asmP_N, show asmN errsC stockX 20 = (some (1, 2, 3), 60, 0) by decide +kernel]; rfl
end Go.Os
namespace Go.Proofs.Ytjmkccckohcfkaa
open Go.RowKit Go.Pm Go.Oc Go.Oh Go.Os
set_option maxRecDepth 100000
set_option linter.unusedVariables false
set_option maxHeartbeats 4000000

noncomputable def sxIndex : List TV → Option TV
  | [.agg [.int .i64 a0, sT, .int .i64 a1, .int .i64 a2, .int .i64 a3, sS], .agg [.int .i64 p, .int .i64 q], s] => match rowL unS sT, rowL unS sS, rowL unSun s with
    | some tab, some shade, some l => if tab.length ≤ 9000000000000 ∧ shade.length ≤ 9000000000000 ∧ l.length ≤ 9000000000000 then some (.tup [(indexP (⟨a0, tab, ⟨a1, a2⟩, a3, shade⟩ : Sx) ⟨p, q⟩ l).1.t, (indexP (⟨a0, tab, ⟨a1, a2⟩, a3, shade⟩ : Sx) ⟨p, q⟩ l).2.1.t, .int .i64 (indexP (⟨a0, tab, ⟨a1, a2⟩, a3, shade⟩ : Sx) ⟨p, q⟩ l).2.2]) else none
    | _, _, _ => none
  | _ => none
theorem sxIndex_ok : ∀ xs r, sxIndex xs = some r → PCalls Try.prog 22 xs r := by
  intro xs r h
  unfold sxIndex at h
  split at h
  · split at h
    · rename_i tab shade l hT hS hl
      have hT := rowL_some (un := unS) unS_nil (@unS_some) hT
      have hS := rowL_some (un := unS) unS_nil (@unS_some) hS
      have hl := rowL_some (un := unSun) unSun_nil (@unSun_some) hl
      split at h
      · rename_i hc; cases h; exact sIndex_c ⟨_, tab, ⟨_, _⟩, _, shade⟩ hT hS hc.1 hc.2.1 ⟨_, _⟩ hl hc.2.2
      · cases h
    · cases h
  · cases h
attribute [go_sem] sxIndex
noncomputable def sxTrial : List TV → Option TV
  | [.agg [.int .i64 a0, sT, .int .i64 a1, .int .i64 a2, .int .i64 a3, sS], s] => match rowL unS sT, rowL unS sS, rowL unTr s with
    | some tab, some shade, some l => if tab.length ≤ 9000000000000 ∧ shade.length ≤ 9000000000000 ∧ l.length ≤ 9000000000000 then some (.tup [rowF1 (trialP (⟨a0, tab, ⟨a1, a2⟩, a3, shade⟩ : Sx) l).1, (trialP (⟨a0, tab, ⟨a1, a2⟩, a3, shade⟩ : Sx) l).2.1.t, .int .i64 (trialP (⟨a0, tab, ⟨a1, a2⟩, a3, shade⟩ : Sx) l).2.2]) else none
    | _, _, _ => none
  | _ => none
theorem sxTrial_ok : ∀ xs r, sxTrial xs = some r → PCalls Try.prog 24 xs r := by
  intro xs r h
  unfold sxTrial at h
  split at h
  · split at h
    · rename_i tab shade l hT hS hl
      have hT := rowL_some (un := unS) unS_nil (@unS_some) hT
      have hS := rowL_some (un := unS) unS_nil (@unS_some) hS
      have hl := rowL_some (un := unTr) unTr_nil (@unTr_some) hl
      split at h
      · rename_i hc; cases h; exact sTrial_c ⟨_, tab, ⟨_, _⟩, _, shade⟩ hT hS hc.1 hc.2.1 hl hc.2.2
      · cases h
    · cases h
  · cases h
attribute [go_sem] sxTrial
noncomputable def sxFalse : List TV → Option TV
  | [.agg [.int .i64 a0, sT, .int .i64 a1, .int .i64 a2, .int .i64 a3, sS], s] => match rowL unS sT, rowL unS sS, rowL unTr s with
    | some tab, some shade, some l => if tab.length ≤ 9000000000000 ∧ shade.length ≤ 9000000000000 ∧ l.length ≤ 9000000000000 then some (.tup [rowI (nI (falseP (⟨a0, tab, ⟨a1, a2⟩, a3, shade⟩ : Sx) l).1), .int .i64 (falseP (⟨a0, tab, ⟨a1, a2⟩, a3, shade⟩ : Sx) l).2]) else none
    | _, _, _ => none
  | _ => none
theorem sxFalse_ok : ∀ xs r, sxFalse xs = some r → PCalls Try.prog 27 xs r := by
  intro xs r h
  unfold sxFalse at h
  split at h
  · split at h
    · rename_i tab shade l hT hS hl
      have hT := rowL_some (un := unS) unS_nil (@unS_some) hT
      have hS := rowL_some (un := unS) unS_nil (@unS_some) hS
      have hl := rowL_some (un := unTr) unTr_nil (@unTr_some) hl
      split at h
      · rename_i hc; cases h; exact sFalse_c ⟨_, tab, ⟨_, _⟩, _, shade⟩ hT hS hc.1 hc.2.1 hl hc.2.2
      · cases h
    · cases h
  · cases h
attribute [go_sem] sxFalse
noncomputable def sxAssemble : List TV → Option TV
  | [s, .int .i64 b] => match rowL unP s with
    | some l => if l.length ≤ 9000000000000 ∧ l.all decP = true then some (.tup [(asmP l b).1, .int .i64 (asmP l b).2.1, .int .i64 (asmP l b).2.2]) else none
    | none => none
  | _ => none
theorem sxAssemble_ok : ∀ xs r, sxAssemble xs = some r → PCalls Try.prog 30 xs r := by
  intro xs r h
  unfold sxAssemble at h
  split at h
  · split at h
    · rename_i l hl
      have hl := rowL_some (un := unP) (by first | rfl | exact unP_nil) (@unP_some) hl
      split at h
      · rename_i hc; cases h; exact sAssemble_c hl hc.1 hc.2 _
      · cases h
    · cases h
  · cases h
attribute [go_sem] sxAssemble
noncomputable def spO1 : Pm.Spec := ((((((spH.one 17 sxCheck).one 15 sxRead).one 19 sxClass).one 22 sxIndex).one 24 sxTrial).one 27 sxFalse).one 30 sxAssemble
@[go_sem] theorem spO1_p (f : FuncId) (xs : List TV) : spO1.p f xs = Pm.Spec.p (((((((spH.one 17 sxCheck).one 15 sxRead).one 19 sxClass).one 22 sxIndex).one 24 sxTrial).one 27 sxFalse).one 30 sxAssemble) f xs := rfl
@[go_sem] theorem spO1_h (f : FuncId) (ps : List PV) (hl : List PO) : spO1.h f ps hl = Pm.Spec.h (((((((spH.one 17 sxCheck).one 15 sxRead).one 19 sxClass).one 22 sxIndex).one 24 sxTrial).one 27 sxFalse).one 30 sxAssemble) f ps hl := rfl
@[go_sem] theorem spO1_fz (f : FuncId) : spO1.fz f = Pm.Spec.fz (((((((spH.one 17 sxCheck).one 15 sxRead).one 19 sxClass).one 22 sxIndex).one 24 sxTrial).one 27 sxFalse).one 30 sxAssemble) f := rfl
@[go_sem] theorem spO1_fr (f : FuncId) : spO1.fr f = Pm.Spec.fr (((((((spH.one 17 sxCheck).one 15 sxRead).one 19 sxClass).one 22 sxIndex).one 24 sxTrial).one 27 sxFalse).one 30 sxAssemble) f := rfl
@[go_sem] theorem spO1_mu (t : TypeId) : spO1.mu t = Pm.Spec.mu (((((((spH.one 17 sxCheck).one 15 sxRead).one 19 sxClass).one 22 sxIndex).one 24 sxTrial).one 27 sxFalse).one 30 sxAssemble) t := rfl
@[go_sem] theorem spO1_nf (t : TypeId) : spO1.nf t = Pm.Spec.nf (((((((spH.one 17 sxCheck).one 15 sxRead).one 19 sxClass).one 22 sxIndex).one 24 sxTrial).one 27 sxFalse).one 30 sxAssemble) t := rfl
theorem spO1_ok : SpecOk Try.prog spO1 := Spec.one_ok sxAssemble_ok (Spec.one_ok sxFalse_ok (Spec.one_ok sxTrial_ok (Spec.one_ok sxIndex_ok (Spec.one_ok sxClass_ok (Spec.one_ok sxRead_ok (Spec.one_ok sxCheck_ok spH_ok))))))
theorem oTo_c (a b : Int) : PCalls Try.prog 40 [.int .i64 a, .int .i64 b] (.agg [.int .i64 a, .int .i64 b]) := by
  refine pcalls_by Try.mixes noSpec_ok (fn := Try.f40) Try.func40 rfl (by kernel_rfl) (by show 2 ≤ _; decide) ?_
  simp (decide := true) (maxSteps := 4000000) only [go_sem, Nat.reduceAdd, Nat.reduceSub, Nat.reduceMul, Nat.reduceDiv, Nat.reduceMod, Nat.reduceLT, Nat.reduceLeDiff, Nat.reduceEqDiff, Nat.reduceBEq, Nat.reduceBNe, Nat.reduceGT, Int.reduceAdd, Int.reduceSub, Int.reduceMul, Int.reduceNeg, Int.reduceLT, Int.reduceLE, Int.reduceEq, Int.reduceNe, Int.reduceBEq, Int.reduceBNe, Int.reduceToNat, Int.reduceGT, Int.reduceGE, ↓reduceIte, decide_true, decide_false, eq_self, Nat.mul_one, Nat.zero_mul, Nat.one_mul, Int.le_refl, Nat.le_refl, Int.cast_ofNat_Int, Try.f40]
noncomputable def xoTo : List TV → Option TV
  | [.int .i64 a, .int .i64 b] => some (.agg [.int .i64 a, .int .i64 b])
  | _ => none
theorem xoTo_ok : ∀ xs r, xoTo xs = some r → PCalls Try.prog 40 xs r := by
  intro xs r h
  unfold xoTo at h
  split at h
  · cases h; exact oTo_c _ _
  · cases h
attribute [go_sem] xoTo
noncomputable def spO2 : Pm.Spec := spO1.one 40 xoTo
@[go_sem] theorem spO2_p (f : FuncId) (xs : List TV) : spO2.p f xs = Pm.Spec.p (spO1.one 40 xoTo) f xs := rfl
@[go_sem] theorem spO2_h (f : FuncId) (ps : List PV) (hl : List PO) : spO2.h f ps hl = Pm.Spec.h (spO1.one 40 xoTo) f ps hl := rfl
@[go_sem] theorem spO2_fz (f : FuncId) : spO2.fz f = Pm.Spec.fz (spO1.one 40 xoTo) f := rfl
@[go_sem] theorem spO2_fr (f : FuncId) : spO2.fr f = Pm.Spec.fr (spO1.one 40 xoTo) f := rfl
@[go_sem] theorem spO2_mu (t : TypeId) : spO2.mu t = Pm.Spec.mu (spO1.one 40 xoTo) t := rfl
@[go_sem] theorem spO2_nf (t : TypeId) : spO2.nf t = Pm.Spec.nf (spO1.one 40 xoTo) t := rfl
theorem spO2_ok : SpecOk Try.prog spO2 := Spec.one_ok xoTo_ok spO1_ok
def ownT : TV := .agg [.int .i64 36000, .sl [.int .i64 0, .int .i64 0, .int .i64 (-10), .int .i64 10, .int .i64 20, .int .i64 40] 3 true, .int .i64 (-30), .int .i64 (-20), .int .i64 5, .sl [.int .i64 0, .int .i64 6, .int .i64 (-4), .int .i64 4] 2 true]
theorem oOwn_c : PCalls Try.prog 50 [] ownT := by
  refine pcalls_by Try.mixes spO2_ok (fn := Try.f50) Try.func50 rfl (by kernel_rfl) (by show 0 ≤ _; decide) ?_
  simp (decide := true) (maxSteps := 4000000) only [go_sem, Nat.reduceAdd, Nat.reduceSub, Nat.reduceMul, Nat.reduceDiv, Nat.reduceMod, Nat.reduceLT, Nat.reduceLeDiff, Nat.reduceEqDiff, Nat.reduceBEq, Nat.reduceBNe, Nat.reduceGT, Int.reduceAdd, Int.reduceSub, Int.reduceMul, Int.reduceNeg, Int.reduceLT, Int.reduceLE, Int.reduceEq, Int.reduceNe, Int.reduceBEq, Int.reduceBNe, Int.reduceToNat, Int.reduceGT, Int.reduceGE, ↓reduceIte, decide_true, decide_false, eq_self, Nat.mul_one, Nat.zero_mul, Nat.one_mul, Int.le_refl, Nat.le_refl, Int.cast_ofNat_Int, Try.f50, ownT]
noncomputable def xoOwn : List TV → Option TV
  | [] => some (ownT)
  | _ => none
theorem xoOwn_ok : ∀ xs r, xoOwn xs = some r → PCalls Try.prog 50 xs r := by
  intro xs r h
  unfold xoOwn at h
  split at h
  · cases h; exact oOwn_c
  · cases h
attribute [go_sem] xoOwn
def sunsT : TV := .sl [.int .i64 1915, .int .i64 1865, .int .i64 1912, .int .i64 1862] 2 true
theorem oSuns_c : PCalls Try.prog 51 [] sunsT := by
  refine pcalls_by Try.mixes spO2_ok (fn := Try.f51) Try.func51 rfl (by kernel_rfl) (by show 0 ≤ _; decide) ?_
  simp (decide := true) (maxSteps := 4000000) only [go_sem, Nat.reduceAdd, Nat.reduceSub, Nat.reduceMul, Nat.reduceDiv, Nat.reduceMod, Nat.reduceLT, Nat.reduceLeDiff, Nat.reduceEqDiff, Nat.reduceBEq, Nat.reduceBNe, Nat.reduceGT, Int.reduceAdd, Int.reduceSub, Int.reduceMul, Int.reduceNeg, Int.reduceLT, Int.reduceLE, Int.reduceEq, Int.reduceNe, Int.reduceBEq, Int.reduceBNe, Int.reduceToNat, Int.reduceGT, Int.reduceGE, ↓reduceIte, decide_true, decide_false, eq_self, Nat.mul_one, Nat.zero_mul, Nat.one_mul, Int.le_refl, Nat.le_refl, Int.cast_ofNat_Int, Try.f51, sunsT]
noncomputable def xoSuns : List TV → Option TV
  | [] => some (sunsT)
  | _ => none
theorem xoSuns_ok : ∀ xs r, xoSuns xs = some r → PCalls Try.prog 51 xs r := by
  intro xs r h
  unfold xoSuns at h
  split at h
  · cases h; exact oSuns_c
  · cases h
attribute [go_sem] xoSuns
theorem oTrial_c (a b : Int) : PCalls Try.prog 52 [.int .i64 a, .int .i64 b] (.agg [.int .i64 a, .int .i64 0, .int .i64 b]) := by
  refine pcalls_by Try.mixes spO2_ok (fn := Try.f52) Try.func52 rfl (by kernel_rfl) (by show 2 ≤ _; decide) ?_
  simp (decide := true) (maxSteps := 4000000) only [go_sem, Nat.reduceAdd, Nat.reduceSub, Nat.reduceMul, Nat.reduceDiv, Nat.reduceMod, Nat.reduceLT, Nat.reduceLeDiff, Nat.reduceEqDiff, Nat.reduceBEq, Nat.reduceBNe, Nat.reduceGT, Int.reduceAdd, Int.reduceSub, Int.reduceMul, Int.reduceNeg, Int.reduceLT, Int.reduceLE, Int.reduceEq, Int.reduceNe, Int.reduceBEq, Int.reduceBNe, Int.reduceToNat, Int.reduceGT, Int.reduceGE, ↓reduceIte, decide_true, decide_false, eq_self, Nat.mul_one, Nat.zero_mul, Nat.one_mul, Int.le_refl, Nat.le_refl, Int.cast_ofNat_Int, Try.f52]
noncomputable def xoTrial : List TV → Option TV
  | [.int .i64 a, .int .i64 b] => some (.agg [.int .i64 a, .int .i64 0, .int .i64 b])
  | _ => none
theorem xoTrial_ok : ∀ xs r, xoTrial xs = some r → PCalls Try.prog 52 xs r := by
  intro xs r h
  unfold xoTrial at h
  split at h
  · cases h; exact oTrial_c _ _
  · cases h
attribute [go_sem] xoTrial
noncomputable def spO3 : Pm.Spec := spO2.one 52 xoTrial
@[go_sem] theorem spO3_p (f : FuncId) (xs : List TV) : spO3.p f xs = Pm.Spec.p (spO2.one 52 xoTrial) f xs := rfl
@[go_sem] theorem spO3_h (f : FuncId) (ps : List PV) (hl : List PO) : spO3.h f ps hl = Pm.Spec.h (spO2.one 52 xoTrial) f ps hl := rfl
@[go_sem] theorem spO3_fz (f : FuncId) : spO3.fz f = Pm.Spec.fz (spO2.one 52 xoTrial) f := rfl
@[go_sem] theorem spO3_fr (f : FuncId) : spO3.fr f = Pm.Spec.fr (spO2.one 52 xoTrial) f := rfl
@[go_sem] theorem spO3_mu (t : TypeId) : spO3.mu t = Pm.Spec.mu (spO2.one 52 xoTrial) t := rfl
@[go_sem] theorem spO3_nf (t : TypeId) : spO3.nf t = Pm.Spec.nf (spO2.one 52 xoTrial) t := rfl
theorem spO3_ok : SpecOk Try.prog spO3 := Spec.one_ok xoTrial_ok spO2_ok
def trialsT : TV := .sl [.int .i64 36000, .int .i64 0, .int .i64 35985, .int .i64 72000, .int .i64 0, .int .i64 72010, .int .i64 36000, .int .i64 0, .int .i64 35960] 3 true
theorem oTrials_c : PCalls Try.prog 53 [] trialsT := by
  refine pcalls_by Try.mixes spO3_ok (fn := Try.f53) Try.func53 rfl (by kernel_rfl) (by show 0 ≤ _; decide) ?_
  simp (decide := true) (maxSteps := 4000000) only [go_sem, Nat.reduceAdd, Nat.reduceSub, Nat.reduceMul, Nat.reduceDiv, Nat.reduceMod, Nat.reduceLT, Nat.reduceLeDiff, Nat.reduceEqDiff, Nat.reduceBEq, Nat.reduceBNe, Nat.reduceGT, Int.reduceAdd, Int.reduceSub, Int.reduceMul, Int.reduceNeg, Int.reduceLT, Int.reduceLE, Int.reduceEq, Int.reduceNe, Int.reduceBEq, Int.reduceBNe, Int.reduceToNat, Int.reduceGT, Int.reduceGE, ↓reduceIte, decide_true, decide_false, eq_self, Nat.mul_one, Nat.zero_mul, Nat.one_mul, Int.le_refl, Nat.le_refl, Int.cast_ofNat_Int, Try.f53, trialsT]
noncomputable def xoTrials : List TV → Option TV
  | [] => some (trialsT)
  | _ => none
theorem xoTrials_ok : ∀ xs r, xoTrials xs = some r → PCalls Try.prog 53 xs r := by
  intro xs r h
  unfold xoTrials at h
  split at h
  · cases h; exact oTrials_c
  · cases h
attribute [go_sem] xoTrials
def stockT : TV := .sl [.int .i64 0, .int .i64 50, rw2 0 4 0 10, .int .i64 0, .int .i64 30, rw2 (-3) 3 (-12) 12, .int .i64 1, .int .i64 20, rw2 0 0 2 6, .int .i64 2, .int .i64 10, rw2 (-2) 2 (-2) 2, .int .i64 2, .int .i64 25, rw2 0 1 0 1] 5 true
theorem oStock_c : PCalls Try.prog 54 [] stockT := by
  refine pcalls_by Try.mixes spO3_ok (fn := Try.f54) Try.func54 rfl (by kernel_rfl) (by show 0 ≤ _; decide) ?_
  simp (decide := true) (maxSteps := 4000000) only [go_sem, Nat.reduceAdd, Nat.reduceSub, Nat.reduceMul, Nat.reduceDiv, Nat.reduceMod, Nat.reduceLT, Nat.reduceLeDiff, Nat.reduceEqDiff, Nat.reduceBEq, Nat.reduceBNe, Nat.reduceGT, Int.reduceAdd, Int.reduceSub, Int.reduceMul, Int.reduceNeg, Int.reduceLT, Int.reduceLE, Int.reduceEq, Int.reduceNe, Int.reduceBEq, Int.reduceBNe, Int.reduceToNat, Int.reduceGT, Int.reduceGE, ↓reduceIte, decide_true, decide_false, eq_self, Nat.mul_one, Nat.zero_mul, Nat.one_mul, Int.le_refl, Nat.le_refl, Int.cast_ofNat_Int, Try.f54, stockT, rw2]
noncomputable def xoStock : List TV → Option TV
  | [] => some (stockT)
  | _ => none
theorem xoStock_ok : ∀ xs r, xoStock xs = some r → PCalls Try.prog 54 xs r := by
  intro xs r h
  unfold xoStock at h
  split at h
  · cases h; exact oStock_c
  · cases h
attribute [go_sem] xoStock
noncomputable def spO4 : Pm.Spec := (((spO3.one 50 xoOwn).one 51 xoSuns).one 53 xoTrials).one 54 xoStock
@[go_sem] theorem spO4_p (f : FuncId) (xs : List TV) : spO4.p f xs = Pm.Spec.p ((((spO3.one 50 xoOwn).one 51 xoSuns).one 53 xoTrials).one 54 xoStock) f xs := rfl
@[go_sem] theorem spO4_h (f : FuncId) (ps : List PV) (hl : List PO) : spO4.h f ps hl = Pm.Spec.h ((((spO3.one 50 xoOwn).one 51 xoSuns).one 53 xoTrials).one 54 xoStock) f ps hl := rfl
@[go_sem] theorem spO4_fz (f : FuncId) : spO4.fz f = Pm.Spec.fz ((((spO3.one 50 xoOwn).one 51 xoSuns).one 53 xoTrials).one 54 xoStock) f := rfl
@[go_sem] theorem spO4_fr (f : FuncId) : spO4.fr f = Pm.Spec.fr ((((spO3.one 50 xoOwn).one 51 xoSuns).one 53 xoTrials).one 54 xoStock) f := rfl
@[go_sem] theorem spO4_mu (t : TypeId) : spO4.mu t = Pm.Spec.mu ((((spO3.one 50 xoOwn).one 51 xoSuns).one 53 xoTrials).one 54 xoStock) t := rfl
@[go_sem] theorem spO4_nf (t : TypeId) : spO4.nf t = Pm.Spec.nf ((((spO3.one 50 xoOwn).one 51 xoSuns).one 53 xoTrials).one 54 xoStock) t := rfl
theorem spO4_ok : SpecOk Try.prog spO4 := Spec.one_ok xoStock_ok (Spec.one_ok xoTrials_ok (Spec.one_ok xoSuns_ok (Spec.one_ok xoOwn_ok spO3_ok)))
theorem oWorks_c : PCalls Try.prog 21 [] (.bool true) := by
  have e1 : unS [.int .i64 0, .int .i64 0, .int .i64 (-10), .int .i64 10, .int .i64 20, .int .i64 40] = some [⟨0, 0⟩, ⟨-10, 10⟩, ⟨20, 40⟩] := unS_eq [⟨0, 0⟩, ⟨-10, 10⟩, ⟨20, 40⟩]
  have e2 : unS [.int .i64 0, .int .i64 6, .int .i64 (-4), .int .i64 4] = some [⟨0, 6⟩, ⟨-4, 4⟩] := unS_eq [⟨0, 6⟩, ⟨-4, 4⟩]
  have e3 : unSun [.int .i64 1915, .int .i64 1865, .int .i64 1912, .int .i64 1862] = some [⟨1915, 1865⟩, ⟨1912, 1862⟩] := unSun_eq [⟨1915, 1865⟩, ⟨1912, 1862⟩]
  have e4 : unTr [.int .i64 36000, .int .i64 0, .int .i64 35985, .int .i64 72000, .int .i64 0, .int .i64 72010] = some (trialsX.take 2) := unTr_eq (trialsX.take 2)
  have e5 : unTr [.int .i64 36000, .int .i64 0, .int .i64 35985, .int .i64 72000, .int .i64 0, .int .i64 72010, .int .i64 36000, .int .i64 0, .int .i64 35960] = some trialsX := unTr_eq trialsX
  have e6 : unP [.int .i64 0, .int .i64 50, rw2 0 4 0 10, .int .i64 0, .int .i64 30, rw2 (-3) 3 (-12) 12, .int .i64 1, .int .i64 20, rw2 0 0 2 6, .int .i64 2, .int .i64 10, rw2 (-2) 2 (-2) 2, .int .i64 2, .int .i64 25, rw2 0 1 0 1] = some stockX := unP_eq stockX
  have eo : Sx.mk 36000 [⟨0, 0⟩, ⟨-10, 10⟩, ⟨20, 40⟩] ⟨-30, -20⟩ 5 [⟨0, 6⟩, ⟨-4, 4⟩] = ownX := rfl
  have es : [(⟨1915, 1865⟩ : Sun), ⟨1912, 1862⟩] = sunsX := rfl
  have l1 : (trialsX.take 2).length = 2 := rfl
  have l2 : trialsX.length = 3 := rfl
  have l3 : stockX.length = 5 := rfl
  have e7 : unS [.int .i64 0, .int .i64 0, .int .i64 0, .int .i64 10, .int .i64 25, .int .i64 40] = some [⟨0, 0⟩, ⟨0, 10⟩, ⟨25, 40⟩] := unS_eq [⟨0, 0⟩, ⟨0, 10⟩, ⟨25, 40⟩]
  have r1 : rowF1 [⟨0, 0⟩, ⟨0, 10⟩, ⟨25, 40⟩] = .sl [.int .i64 0, .int .i64 0, .int .i64 0, .int .i64 10, .int .i64 25, .int .i64 40] 3 true := rfl
  have r2 : rowI (nI [0, 2]) = .sl [.int .i64 0, .int .i64 2] 2 false := rfl
  have e8 : unI [.int .i64 0, .int .i64 2] = some [0, 2] := unI_eq [0, 2]
  have e9 : unI [.int .i64 1, .int .i64 2, .int .i64 3] = some [1, 2, 3] := unI_eq [1, 2, 3]
  refine pcalls_by Try.mixes spO4_ok (fn := Try.f21) Try.func21 rfl (by kernel_rfl) (by show 0 ≤ _; decide) ?_
  simp (decide := true) (maxSteps := 4000000) only [go_sem, Nat.reduceAdd, Nat.reduceSub, Nat.reduceMul, Nat.reduceDiv, Nat.reduceMod, Nat.reduceLT, Nat.reduceLeDiff, Nat.reduceEqDiff, Nat.reduceBEq, Nat.reduceBNe, Nat.reduceGT, Int.reduceAdd, Int.reduceSub, Int.reduceMul, Int.reduceNeg, Int.reduceLT, Int.reduceLE, Int.reduceEq, Int.reduceNe, Int.reduceBEq, Int.reduceBNe, Int.reduceToNat, Int.reduceGT, Int.reduceGE, ↓reduceIte, decide_true, decide_false, eq_self, Nat.mul_one, Nat.zero_mul, Nat.one_mul, Int.le_refl, Nat.le_refl, Int.cast_ofNat_Int, Try.f21, ownT, sunsT, trialsT, stockT, e1, e2, e3, e4, e5, e6, e7, e8, e9, eo, es, l1, l2, l3, r1, r2, exRead, exIndex, exTrial, exFalse, exClass, exStock, exAsm, List.length_cons, List.length_nil, Span.t, Span.cs]
  done
noncomputable def xoWorks : List TV → Option TV
  | [] => some (.bool true)
  | _ => none
theorem xoWorks_ok : ∀ xs r, xoWorks xs = some r → PCalls Try.prog 21 xs r := by
  intro xs r h
  unfold xoWorks at h
  split at h
  · cases h; exact oWorks_c
  · cases h
attribute [go_sem] xoWorks
noncomputable def spO5 : Pm.Spec := spO2.one 21 xoWorks
@[go_sem] theorem spO5_p (f : FuncId) (xs : List TV) : spO5.p f xs = Pm.Spec.p (spO2.one 21 xoWorks) f xs := rfl
@[go_sem] theorem spO5_h (f : FuncId) (ps : List PV) (hl : List PO) : spO5.h f ps hl = Pm.Spec.h (spO2.one 21 xoWorks) f ps hl := rfl
@[go_sem] theorem spO5_fz (f : FuncId) : spO5.fz f = Pm.Spec.fz (spO2.one 21 xoWorks) f := rfl
@[go_sem] theorem spO5_fr (f : FuncId) : spO5.fr f = Pm.Spec.fr (spO2.one 21 xoWorks) f := rfl
@[go_sem] theorem spO5_mu (t : TypeId) : spO5.mu t = Pm.Spec.mu (spO2.one 21 xoWorks) t := rfl
@[go_sem] theorem spO5_nf (t : TypeId) : spO5.nf t = Pm.Spec.nf (spO2.one 21 xoWorks) t := rfl
theorem spO5_ok : SpecOk Try.prog spO5 := Spec.one_ok xoWorks_ok spO2_ok
end Go.Proofs.Ytjmkccckohcfkaa

/- Part Oj1. -/
namespace Go.Os
open Go Go.Pm Go.Oc Go.Oh
def tabL0 : List TV := [.int .i64 0, .int .i64 0, .int .i64 (-10), .int .i64 10, .int .i64 20, .int .i64 40]
def shdL0 : List TV := [.int .i64 0, .int .i64 6, .int .i64 (-4), .int .i64 4]
theorem bad_read {x : Sx} (h : sxOk x = false) (a s : Int) : readP x a s = (⟨0, 0⟩, 50) := by unfold readP; rw [h]; rfl
theorem bad_index {x : Sx} (h : sxOk x = false) (D : Span) (l : List Sun) : indexP x D l = (⟨0, 0⟩, ⟨0, 0⟩, 50) := by unfold indexP; rw [h]; rfl
theorem bad_opened {x : Sx} (h : sxOk x = false) (l : List Tr) : openedE x l = 50 := by unfold openedE; rw [h]; rfl
theorem bad_trial {x : Sx} (h : sxOk x = false) (l : List Tr) : trialP x l = ([], ⟨0, 0⟩, 50) := by unfold trialP; rw [bad_opened h]; rfl
theorem bad_false {x : Sx} (h : sxOk x = false) (l : List Tr) : falseP x l = ([], 50) := by unfold falseP; rw [bad_opened h]; rfl
theorem bad_class {x : Sx} (h : sxOk x = false) : classP x = (0, 0, 50) := by unfold classP; rw [h]; rfl
def exB0 : Sx := ⟨0, [], ⟨0, 0⟩, 0, []⟩
def exB1 : Sx := ⟨72001, [⟨0, 0⟩, ⟨-10, 10⟩, ⟨20, 40⟩], ⟨-30, -20⟩, 5, [⟨0, 6⟩, ⟨-4, 4⟩]⟩
def exB2 : Sx := ⟨36000, [⟨0, 0⟩, ⟨10, -10⟩, ⟨20, 40⟩], ⟨-30, -20⟩, 5, [⟨0, 6⟩, ⟨-4, 4⟩]⟩
def exB3 : Sx := ⟨36000, [⟨0, 0⟩, ⟨-10, 601⟩, ⟨20, 40⟩], ⟨-30, -20⟩, 5, [⟨0, 6⟩, ⟨-4, 4⟩]⟩
def exB4 : Sx := ⟨36000, [⟨0, 0⟩, ⟨-10, 10⟩, ⟨20, 40⟩], ⟨-30, 1801⟩, 5, [⟨0, 6⟩, ⟨-4, 4⟩]⟩
def exB5 : Sx := ⟨36000, [⟨0, 0⟩, ⟨-10, 10⟩, ⟨20, 40⟩], ⟨-30, -20⟩, 61, [⟨0, 6⟩, ⟨-4, 4⟩]⟩
def exB6 : Sx := ⟨36000, [⟨0, 0⟩, ⟨-10, 10⟩, ⟨20, 40⟩], ⟨-30, -20⟩, 5, [⟨-121, 0⟩, ⟨-4, 4⟩]⟩
def exB7 : Sx := ⟨36000, [⟨0, 0⟩], ⟨-30, -20⟩, 5, [⟨0, 6⟩, ⟨-4, 4⟩]⟩
def longX : Sx := ⟨63001, [⟨0, 0⟩, ⟨0, 0⟩, ⟨0, 0⟩, ⟨0, 0⟩, ⟨0, 0⟩, ⟨0, 0⟩, ⟨0, 0⟩, ⟨0, 0⟩, ⟨0, 0⟩], ⟨-30, -20⟩, 5, [⟨0, 6⟩, ⟨-4, 4⟩]⟩
def fineX : Sx := ⟨36000, [⟨0, 0⟩, ⟨5, 10⟩], ⟨-30, -20⟩, 5, []⟩
def oddX : List Pt := [⟨0, 50, rw2 0 4 0 10⟩, ⟨0, 30, rw2 (-3) 3 (-12) 12⟩, ⟨1, 20, rw2 0 0 2 6⟩, ⟨2, 10, rw2 (-2) 2 (-2) 2⟩, ⟨2, 25, .sl [.int .i64 0, .int .i64 1] 1 false⟩]
theorem kLong : sxOk longX = false := by decide +kernel
theorem kR1 : readP ownX 72001 0 = (⟨0, 0⟩, 51) := by decide +kernel
theorem kR2 : readP ownX 5 4 = (⟨0, 0⟩, 51) := by decide +kernel
theorem kR3 : readP ownX 18000 0 = (⟨17960, 17990⟩, 0) := by decide +kernel
theorem kR4 : readP ownX 1 0 = (⟨-35, -14⟩, 0) := by decide +kernel
theorem kI1 : indexP ownX ⟨0, 1900⟩ sunsX = (⟨0, 0⟩, ⟨0, 0⟩, 52) := by decide +kernel
theorem kI2 : indexP ownX ⟨1880, 1900⟩ [⟨6001, 0⟩] = (⟨0, 0⟩, ⟨0, 0⟩, 52) := by decide +kernel
theorem kI3 : indexP ownX ⟨1880, 1900⟩ [⟨1800, 1865⟩] = (⟨0, 0⟩, ⟨0, 0⟩, 54) := by decide +kernel
theorem kI4 : indexP ownX ⟨1880, 1900⟩ [⟨1915, 1865⟩] = (⟨-30, -20⟩, ⟨1885, 1895⟩, 0) := by decide +kernel
theorem kT1 : trialP ownX [⟨36001, 0, 36001⟩] = ([], ⟨0, 0⟩, 53) := by decide +kernel
theorem kT2 : trialP ownX trialsX = ([], ⟨0, 0⟩, 54) := by decide +kernel
theorem kF1 : falseP ownX [⟨36000, 0, 510001⟩] = ([], 53) := by decide +kernel
theorem kF2 : falseP ownX (trialsX.take 2) = ([], 4) := by decide +kernel
theorem kC : classP fineX = (1, 25, 0) := by decide +kernel
theorem kA1 : asmP stockX 16 = (.nilSl, 0, 4) := by rw [asmP_N, show asmN errsC stockX 16 = (none, 0, 4) by decide +kernel]; rfl
theorem kA2 : asmP stockX (-1) = (.nilSl, 0, 55) := by rw [asmP_N, show asmN errsC stockX (-1) = (none, 0, 55) by decide +kernel]; rfl
theorem kA3 : asmP (stockX.take 2) 16 = (.nilSl, 0, 55) := by rw [asmP_N, show asmN errsC (stockX.take 2) 16 = (none, 0, 55) by decide +kernel]; rfl
theorem kA4 : asmP oddX 20 = (.nilSl, 0, 55) := by rw [asmP_N, show asmN errsC oddX 20 = (none, 0, 55) by decide +kernel]; rfl
theorem kA5 : asmP stockX 18 = (.sl [.int .i64 0, .int .i64 2, .int .i64 3] 3 true, 80, 0) := by rw [asmP_N, show asmN errsC stockX 18 = (some (0, 2, 3), 80, 0) by decide +kernel]; rfl
theorem kD3 : (stockX.take 2).all decP = true := List.all_eq_true.2 fun x hx => List.all_eq_true.1 exStock x (List.mem_of_mem_take hx)
theorem kD4 : oddX.all decP = true := by
  have e : ∀ x ∈ oddX, decP x = true := fun x hx => by
    unfold decP rowL
    simp only [unS_c]
    unfold oddX at hx
    simp only [List.mem_cons, List.not_mem_nil, or_false] at hx
    rcases hx with rfl | rfl | rfl | rfl | rfl <;> decide
  exact List.all_eq_true.2 e
theorem exN0 : sxOk exB0 = false := by decide +kernel
theorem exN1 : sxOk exB1 = false := by decide +kernel
theorem exN2 : sxOk exB2 = false := by decide +kernel
theorem exN3 : sxOk exB3 = false := by decide +kernel
theorem exN4 : sxOk exB4 = false := by decide +kernel
theorem exN5 : sxOk exB5 = false := by decide +kernel
theorem exN6 : sxOk exB6 = false := by decide +kernel
theorem exN7 : sxOk exB7 = false := by decide +kernel
end Go.Os
namespace Go.Proofs.Ytjmkccckohcfkaa
open Go.RowKit Go.Pm Go.Oc Go.Oh Go.Os
set_option maxRecDepth 100000
set_option linter.unusedVariables false
set_option maxHeartbeats 8000000

/-- A row of spans that is written, or is not any more. -/
def rwS (b : Bool) (cs : List TV) : PO := if b then .gro 0 cs 24 2 else .grow 0 (cs.map .t) 24 2
def ownV : PV := consP false [.t (.int .i64 36000), .gsl 1 0 2 0 3 false, .t (.int .i64 (-30)), .t (.int .i64 (-20)), .t (.int .i64 5), .gsl 2 0 2 0 2 false]
def ownO : List PO := [.box [.t (.int .i64 36000), .gsl 1 0 2 0 3 false, .t (.int .i64 (-30)), .t (.int .i64 (-20)), .t (.int .i64 5), .gsl 2 0 2 0 2 false], .grow 0 [.t (.int .i64 0), .t (.int .i64 0), .t (.int .i64 (-10)), .t (.int .i64 10), .t (.int .i64 20), .t (.int .i64 40)] 24 2, .grow 0 [.t (.int .i64 0), .t (.int .i64 6), .t (.int .i64 (-4)), .t (.int .i64 4)] 24 2]
noncomputable def spOj1 : Pm.Spec := { (noSpec.one 40 xoTo) with mu := fun t => t == 22 }
@[go_sem] theorem spOj1_p (f : FuncId) (xs : List TV) : spOj1.p f xs = Pm.Spec.p ({ (noSpec.one 40 xoTo) with mu := fun t => t == 22 }) f xs := rfl
@[go_sem] theorem spOj1_h (f : FuncId) (ps : List PV) (hl : List PO) : spOj1.h f ps hl = Pm.Spec.h ({ (noSpec.one 40 xoTo) with mu := fun t => t == 22 }) f ps hl := rfl
@[go_sem] theorem spOj1_fz (f : FuncId) : spOj1.fz f = Pm.Spec.fz ({ (noSpec.one 40 xoTo) with mu := fun t => t == 22 }) f := rfl
@[go_sem] theorem spOj1_fr (f : FuncId) : spOj1.fr f = Pm.Spec.fr ({ (noSpec.one 40 xoTo) with mu := fun t => t == 22 }) f := rfl
@[go_sem] theorem spOj1_mu (t : TypeId) : spOj1.mu t = Pm.Spec.mu ({ (noSpec.one 40 xoTo) with mu := fun t => t == 22 }) t := rfl
@[go_sem] theorem spOj1_nf (t : TypeId) : spOj1.nf t = Pm.Spec.nf ({ (noSpec.one 40 xoTo) with mu := fun t => t == 22 }) t := rfl
theorem spOj1_ok : SpecOk Try.prog spOj1 := ⟨(Spec.one_ok xoTo_ok noSpec_ok).1, (Spec.one_ok xoTo_ok noSpec_ok).2⟩
theorem oOwnH_c : HCalls Try.prog 50 [] (getL []) ownV (getL ownO) := by
  refine hcalls_by Try.mixes spOj1_ok (fn := Try.f50) Try.func50 rfl (by kernel_rfl) (by show 0 ≤ _; decide) ?_
  simp (decide := true) (maxSteps := 4000000) only [go_sem, Nat.reduceAdd, Nat.reduceSub, Nat.reduceMul, Nat.reduceDiv, Nat.reduceMod, Nat.reduceLT, Nat.reduceLeDiff, Nat.reduceEqDiff, Nat.reduceBEq, Nat.reduceBNe, Nat.reduceGT, Int.reduceAdd, Int.reduceSub, Int.reduceMul, Int.reduceNeg, Int.reduceLT, Int.reduceLE, Int.reduceEq, Int.reduceNe, Int.reduceBEq, Int.reduceBNe, Int.reduceToNat, Int.reduceGT, Int.reduceGE, ↓reduceIte, decide_true, decide_false, eq_self, Nat.mul_one, Nat.zero_mul, Nat.one_mul, Int.le_refl, Nat.le_refl, Int.cast_ofNat_Int, Try.f50, ownV, ownO, cellW, cellsW, heapW, objW]
  exact ⟨_, rfl, rfl⟩
noncomputable def xoOwnH : List PV → List PO → Option (PV × List PO)
  | [], [] => some (ownV, ownO)
  | _, _ => none
theorem xoOwnH_ok : ∀ xs hl r hl', xoOwnH xs hl = some (r, hl') → HCalls Try.prog 50 xs (getL hl) r (getL hl') := by
  intro xs hl r hl' h
  unfold xoOwnH at h
  split at h
  · simp only [Option.some.injEq, Prod.mk.injEq] at h
    obtain ⟨rfl, rfl⟩ := h
    exact oOwnH_c
  · cases h
attribute [go_sem] xoOwnH ownV ownO
def stockV : PV := .gsl 0 0 3 0 5 false
def stockO : List PO := [.grow 0 [.t (.int .i64 0), .t (.int .i64 50), .t (rw2 0 4 0 10), .t (.int .i64 0), .t (.int .i64 30), .t (rw2 (-3) 3 (-12) 12), .t (.int .i64 1), .t (.int .i64 20), .t (rw2 0 0 2 6), .t (.int .i64 2), .t (.int .i64 10), .t (rw2 (-2) 2 (-2) 2), .t (.int .i64 2), .t (.int .i64 25), .t (rw2 0 1 0 1)] 77 3]
noncomputable def spOj0 : Pm.Spec := { (noSpec.one 40 xoTo) with mu := fun t => t == 50 }
@[go_sem] theorem spOj0_p (f : FuncId) (xs : List TV) : spOj0.p f xs = Pm.Spec.p ({ (noSpec.one 40 xoTo) with mu := fun t => t == 50 }) f xs := rfl
@[go_sem] theorem spOj0_h (f : FuncId) (ps : List PV) (hl : List PO) : spOj0.h f ps hl = Pm.Spec.h ({ (noSpec.one 40 xoTo) with mu := fun t => t == 50 }) f ps hl := rfl
@[go_sem] theorem spOj0_fz (f : FuncId) : spOj0.fz f = Pm.Spec.fz ({ (noSpec.one 40 xoTo) with mu := fun t => t == 50 }) f := rfl
@[go_sem] theorem spOj0_fr (f : FuncId) : spOj0.fr f = Pm.Spec.fr ({ (noSpec.one 40 xoTo) with mu := fun t => t == 50 }) f := rfl
@[go_sem] theorem spOj0_mu (t : TypeId) : spOj0.mu t = Pm.Spec.mu ({ (noSpec.one 40 xoTo) with mu := fun t => t == 50 }) t := rfl
@[go_sem] theorem spOj0_nf (t : TypeId) : spOj0.nf t = Pm.Spec.nf ({ (noSpec.one 40 xoTo) with mu := fun t => t == 50 }) t := rfl
theorem spOj0_ok : SpecOk Try.prog spOj0 := ⟨(Spec.one_ok xoTo_ok noSpec_ok).1, (Spec.one_ok xoTo_ok noSpec_ok).2⟩
theorem oStockH_c : HCalls Try.prog 54 [] (getL []) stockV (getL stockO) := by
  refine hcalls_by Try.mixes spOj0_ok (fn := Try.f54) Try.func54 rfl (by kernel_rfl) (by show 0 ≤ _; decide) ?_
  simp (decide := true) (maxSteps := 4000000) only [go_sem, Nat.reduceAdd, Nat.reduceSub, Nat.reduceMul, Nat.reduceDiv, Nat.reduceMod, Nat.reduceLT, Nat.reduceLeDiff, Nat.reduceEqDiff, Nat.reduceBEq, Nat.reduceBNe, Nat.reduceGT, Int.reduceAdd, Int.reduceSub, Int.reduceMul, Int.reduceNeg, Int.reduceLT, Int.reduceLE, Int.reduceEq, Int.reduceNe, Int.reduceBEq, Int.reduceBNe, Int.reduceToNat, Int.reduceGT, Int.reduceGE, ↓reduceIte, decide_true, decide_false, eq_self, Nat.mul_one, Nat.zero_mul, Nat.one_mul, Int.le_refl, Nat.le_refl, Int.cast_ofNat_Int, Try.f54, stockV, stockO, rw2, cellW, cellsW, heapW, objW]
  exact ⟨_, rfl, rfl⟩
noncomputable def xoStockH : List PV → List PO → Option (PV × List PO)
  | [], [] => some (stockV, stockO)
  | _, _ => none
theorem xoStockH_ok : ∀ xs hl r hl', xoStockH xs hl = some (r, hl') → HCalls Try.prog 54 xs (getL hl) r (getL hl') := by
  intro xs hl r hl' h
  unfold xoStockH at h
  split at h
  · simp only [Option.some.injEq, Prod.mk.injEq] at h
    obtain ⟨rfl, rfl⟩ := h
    exact oStockH_c
  · cases h
attribute [go_sem] xoStockH stockV stockO
noncomputable def spOjb : Pm.Spec := ((spO3.one 51 xoSuns).one 53 xoTrials).one 21 xoWorks
@[go_sem] theorem spOjb_p (f : FuncId) (xs : List TV) : spOjb.p f xs = Pm.Spec.p (((spO3.one 51 xoSuns).one 53 xoTrials).one 21 xoWorks) f xs := rfl
@[go_sem] theorem spOjb_h (f : FuncId) (ps : List PV) (hl : List PO) : spOjb.h f ps hl = Pm.Spec.h (((spO3.one 51 xoSuns).one 53 xoTrials).one 21 xoWorks) f ps hl := rfl
@[go_sem] theorem spOjb_fz (f : FuncId) : spOjb.fz f = Pm.Spec.fz (((spO3.one 51 xoSuns).one 53 xoTrials).one 21 xoWorks) f := rfl
@[go_sem] theorem spOjb_fr (f : FuncId) : spOjb.fr f = Pm.Spec.fr (((spO3.one 51 xoSuns).one 53 xoTrials).one 21 xoWorks) f := rfl
@[go_sem] theorem spOjb_mu (t : TypeId) : spOjb.mu t = Pm.Spec.mu (((spO3.one 51 xoSuns).one 53 xoTrials).one 21 xoWorks) t := rfl
@[go_sem] theorem spOjb_nf (t : TypeId) : spOjb.nf t = Pm.Spec.nf (((spO3.one 51 xoSuns).one 53 xoTrials).one 21 xoWorks) t := rfl
theorem spOjb_ok : SpecOk Try.prog spOjb := Spec.one_ok xoWorks_ok (Spec.one_ok xoTrials_ok (Spec.one_ok xoSuns_ok spO3_ok))
noncomputable def spOj2 : Pm.Spec := Spec.oneH 50 xoOwnH (Spec.oneH 54 xoStockH { spOjb with mu := fun t => t == 81, nf := fun t => t == 81, fr := fun f => f == 17 || f == 15 || f == 19 || f == 22 || f == 24 || f == 27 || f == 30 })
@[go_sem] theorem spOj2_p (f : FuncId) (xs : List TV) : spOj2.p f xs = Pm.Spec.p (Spec.oneH 50 xoOwnH (Spec.oneH 54 xoStockH { spOjb with mu := fun t => t == 81, nf := fun t => t == 81, fr := fun f => f == 17 || f == 15 || f == 19 || f == 22 || f == 24 || f == 27 || f == 30 })) f xs := rfl
@[go_sem] theorem spOj2_h (f : FuncId) (ps : List PV) (hl : List PO) : spOj2.h f ps hl = Pm.Spec.h (Spec.oneH 50 xoOwnH (Spec.oneH 54 xoStockH { spOjb with mu := fun t => t == 81, nf := fun t => t == 81, fr := fun f => f == 17 || f == 15 || f == 19 || f == 22 || f == 24 || f == 27 || f == 30 })) f ps hl := rfl
@[go_sem] theorem spOj2_fz (f : FuncId) : spOj2.fz f = Pm.Spec.fz (Spec.oneH 50 xoOwnH (Spec.oneH 54 xoStockH { spOjb with mu := fun t => t == 81, nf := fun t => t == 81, fr := fun f => f == 17 || f == 15 || f == 19 || f == 22 || f == 24 || f == 27 || f == 30 })) f := rfl
@[go_sem] theorem spOj2_fr (f : FuncId) : spOj2.fr f = Pm.Spec.fr (Spec.oneH 50 xoOwnH (Spec.oneH 54 xoStockH { spOjb with mu := fun t => t == 81, nf := fun t => t == 81, fr := fun f => f == 17 || f == 15 || f == 19 || f == 22 || f == 24 || f == 27 || f == 30 })) f := rfl
@[go_sem] theorem spOj2_mu (t : TypeId) : spOj2.mu t = Pm.Spec.mu (Spec.oneH 50 xoOwnH (Spec.oneH 54 xoStockH { spOjb with mu := fun t => t == 81, nf := fun t => t == 81, fr := fun f => f == 17 || f == 15 || f == 19 || f == 22 || f == 24 || f == 27 || f == 30 })) t := rfl
@[go_sem] theorem spOj2_nf (t : TypeId) : spOj2.nf t = Pm.Spec.nf (Spec.oneH 50 xoOwnH (Spec.oneH 54 xoStockH { spOjb with mu := fun t => t == 81, nf := fun t => t == 81, fr := fun f => f == 17 || f == 15 || f == 19 || f == 22 || f == 24 || f == 27 || f == 30 })) t := rfl
theorem spOj2_ok : SpecOk Try.prog spOj2 := Spec.oneH_ok xoOwnH_ok (Spec.oneH_ok xoStockH_ok ⟨spOjb_ok.1, spOjb_ok.2⟩)
end Go.Proofs.Ytjmkccckohcfkaa

/- Part Oj. -/
namespace Go.Proofs.Ytjmkccckohcfkaa
open Go.RowKit Go.Pm Go.Oc Go.Oh Go.Os
set_option maxRecDepth 100000
set_option linter.unusedVariables false
set_option maxHeartbeats 40000000

theorem SextantKnown_c : PCalls Try.prog 14 [] (.bool true) := by
  have eT : unS [.int .i64 0, .int .i64 0, .int .i64 (-10), .int .i64 10, .int .i64 20, .int .i64 40] = some [⟨0, 0⟩, ⟨-10, 10⟩, ⟨20, 40⟩] := unS_eq ([⟨0, 0⟩, ⟨-10, 10⟩, ⟨20, 40⟩])
  have eT2 : unS [.int .i64 0, .int .i64 0, .int .i64 10, .int .i64 (-10), .int .i64 20, .int .i64 40] = some [⟨0, 0⟩, ⟨10, -10⟩, ⟨20, 40⟩] := unS_eq ([⟨0, 0⟩, ⟨10, -10⟩, ⟨20, 40⟩])
  have eT3 : unS [.int .i64 0, .int .i64 0, .int .i64 (-10), .int .i64 601, .int .i64 20, .int .i64 40] = some [⟨0, 0⟩, ⟨-10, 601⟩, ⟨20, 40⟩] := unS_eq ([⟨0, 0⟩, ⟨-10, 601⟩, ⟨20, 40⟩])
  have eT7 : unS [.int .i64 0, .int .i64 0] = some [⟨0, 0⟩] := unS_eq ([⟨0, 0⟩])
  have eS : unS [.int .i64 0, .int .i64 6, .int .i64 (-4), .int .i64 4] = some [⟨0, 6⟩, ⟨-4, 4⟩] := unS_eq ([⟨0, 6⟩, ⟨-4, 4⟩])
  have eS6 : unS [.int .i64 (-121), .int .i64 0, .int .i64 (-4), .int .i64 4] = some [⟨-121, 0⟩, ⟨-4, 4⟩] := unS_eq ([⟨-121, 0⟩, ⟨-4, 4⟩])
  have q0 : Sx.mk 0 [] ⟨0, 0⟩ 0 [] = exB0 := rfl
  have q1 : Sx.mk 72001 [⟨0, 0⟩, ⟨-10, 10⟩, ⟨20, 40⟩] ⟨-30, -20⟩ 5 [⟨0, 6⟩, ⟨-4, 4⟩] = exB1 := rfl
  have q2 : Sx.mk 36000 [⟨0, 0⟩, ⟨10, -10⟩, ⟨20, 40⟩] ⟨-30, -20⟩ 5 [⟨0, 6⟩, ⟨-4, 4⟩] = exB2 := rfl
  have q3 : Sx.mk 36000 [⟨0, 0⟩, ⟨-10, 601⟩, ⟨20, 40⟩] ⟨-30, -20⟩ 5 [⟨0, 6⟩, ⟨-4, 4⟩] = exB3 := rfl
  have q4 : Sx.mk 36000 [⟨0, 0⟩, ⟨-10, 10⟩, ⟨20, 40⟩] ⟨-30, 1801⟩ 5 [⟨0, 6⟩, ⟨-4, 4⟩] = exB4 := rfl
  have q5 : Sx.mk 36000 [⟨0, 0⟩, ⟨-10, 10⟩, ⟨20, 40⟩] ⟨-30, -20⟩ 61 [⟨0, 6⟩, ⟨-4, 4⟩] = exB5 := rfl
  have q6 : Sx.mk 36000 [⟨0, 0⟩, ⟨-10, 10⟩, ⟨20, 40⟩] ⟨-30, -20⟩ 5 [⟨-121, 0⟩, ⟨-4, 4⟩] = exB6 := rfl
  have q7 : Sx.mk 36000 [⟨0, 0⟩] ⟨-30, -20⟩ 5 [⟨0, 6⟩, ⟨-4, 4⟩] = exB7 := rfl
  have b50 : ((50 : Int) != 50) = false := rfl
  have n0 : rowI (nI []) = .nilSl := rfl
  have n1 : rowF1 [] = .nilSl := rfl
  have uN : unS [] = some [] := unS_nil
  have qo : Sx.mk 36000 [⟨0, 0⟩, ⟨-10, 10⟩, ⟨20, 40⟩] ⟨-30, -20⟩ 5 [⟨0, 6⟩, ⟨-4, 4⟩] = ownX := rfl
  have ql : Sx.mk 63001 [⟨0, 0⟩, ⟨0, 0⟩, ⟨0, 0⟩, ⟨0, 0⟩, ⟨0, 0⟩, ⟨0, 0⟩, ⟨0, 0⟩, ⟨0, 0⟩, ⟨0, 0⟩] ⟨-30, -20⟩ 5 [⟨0, 6⟩, ⟨-4, 4⟩] = longX := rfl
  have qf : Sx.mk 36000 [⟨0, 0⟩, ⟨5, 10⟩] ⟨-30, -20⟩ 5 [] = fineX := rfl
  have eL : unS [.int .i64 0, .int .i64 0, .int .i64 0, .int .i64 0, .int .i64 0, .int .i64 0, .int .i64 0, .int .i64 0, .int .i64 0, .int .i64 0, .int .i64 0, .int .i64 0, .int .i64 0, .int .i64 0, .int .i64 0, .int .i64 0, .int .i64 0, .int .i64 0] = some [⟨0, 0⟩, ⟨0, 0⟩, ⟨0, 0⟩, ⟨0, 0⟩, ⟨0, 0⟩, ⟨0, 0⟩, ⟨0, 0⟩, ⟨0, 0⟩, ⟨0, 0⟩] := unS_eq [⟨0, 0⟩, ⟨0, 0⟩, ⟨0, 0⟩, ⟨0, 0⟩, ⟨0, 0⟩, ⟨0, 0⟩, ⟨0, 0⟩, ⟨0, 0⟩, ⟨0, 0⟩]
  have eF : unS [.int .i64 0, .int .i64 0, .int .i64 5, .int .i64 10] = some [⟨0, 0⟩, ⟨5, 10⟩] := unS_eq [⟨0, 0⟩, ⟨5, 10⟩]
  have u1 : unSun [.int .i64 1915, .int .i64 1865, .int .i64 1912, .int .i64 1862] = some sunsX := unSun_eq sunsX
  have u2 : unSun [.int .i64 6001, .int .i64 0] = some [⟨6001, 0⟩] := unSun_eq [⟨6001, 0⟩]
  have u3 : unSun [.int .i64 1800, .int .i64 1865] = some [⟨1800, 1865⟩] := unSun_eq [⟨1800, 1865⟩]
  have u4 : unSun [.int .i64 1915, .int .i64 1865] = some [⟨1915, 1865⟩] := unSun_eq [⟨1915, 1865⟩]
  have v1 : unTr [.int .i64 36000, .int .i64 0, .int .i64 35985, .int .i64 72000, .int .i64 0, .int .i64 72010] = some (trialsX.take 2) := unTr_eq (trialsX.take 2)
  have v2 : unTr [.int .i64 36000, .int .i64 0, .int .i64 35985, .int .i64 72000, .int .i64 0, .int .i64 72010, .int .i64 36000, .int .i64 0, .int .i64 35960] = some trialsX := unTr_eq trialsX
  have v3 : unTr [.int .i64 36001, .int .i64 0, .int .i64 36001] = some [⟨36001, 0, 36001⟩] := unTr_eq [⟨36001, 0, 36001⟩]
  have v4 : unTr [.int .i64 36000, .int .i64 0, .int .i64 510001] = some [⟨36000, 0, 510001⟩] := unTr_eq [⟨36000, 0, 510001⟩]
  have x1 : unP [.int .i64 0, .int .i64 50, rw2 0 4 0 10, .int .i64 0, .int .i64 30, rw2 (-3) 3 (-12) 12, .int .i64 1, .int .i64 20, rw2 0 0 2 6, .int .i64 2, .int .i64 10, rw2 (-2) 2 (-2) 2, .int .i64 2, .int .i64 25, (.sl [.int .i64 0, .int .i64 1, .int .i64 0, .int .i64 1] 2 true)] = some stockX := unP_eq stockX
  have x2 : unP [.int .i64 0, .int .i64 50, rw2 0 4 0 10, .int .i64 0, .int .i64 30, rw2 (-3) 3 (-12) 12] = some (stockX.take 2) := unP_eq (stockX.take 2)
  have x3 : unP [.int .i64 0, .int .i64 50, rw2 0 4 0 10, .int .i64 0, .int .i64 30, rw2 (-3) 3 (-12) 12, .int .i64 1, .int .i64 20, rw2 0 0 2 6, .int .i64 2, .int .i64 10, rw2 (-2) 2 (-2) 2, .int .i64 2, .int .i64 25, .sl [.int .i64 0, .int .i64 1] 1 false] = some oddX := unP_eq oddX
  have ua : unI [.int .i64 0, .int .i64 2, .int .i64 3] = some [0, 2, 3] := unI_eq [0, 2, 3]
  have ls : sunsX.length = 2 := rfl
  have lt : trialsX.length = 3 := rfl
  have lt2 : (trialsX.take 2).length = 2 := rfl
  have lp : stockX.length = 5 := rfl
  have lp2 : (stockX.take 2).length = 2 := rfl
  have lp3 : oddX.length = 5 := rfl
  have w01 : rw2 0 1 0 1 = .sl [.int .i64 0, .int .i64 1, .int .i64 0, .int .i64 1] 2 true := rfl
  have z0 : ((0 : Int) == 0) = true := rfl
  refine pcalls_by Try.mixes spOj2_ok (fn := Try.f14) Try.func14 rfl (by kernel_rfl) (by show 0 ≤ _; decide) ?_
  simp (decide := true) (maxSteps := 4000000) only [go_sem, Nat.reduceAdd, Nat.reduceSub, Nat.reduceMul, Nat.reduceDiv, Nat.reduceMod, Nat.reduceLT, Nat.reduceLeDiff, Nat.reduceEqDiff, Nat.reduceBEq, Nat.reduceBNe, Nat.reduceGT, Int.reduceAdd, Int.reduceSub, Int.reduceMul, Int.reduceNeg, Int.reduceLT, Int.reduceLE, Int.reduceEq, Int.reduceNe, Int.reduceBEq, Int.reduceBNe, Int.reduceToNat, Int.reduceGT, Int.reduceGE, ↓reduceIte, decide_true, decide_false, eq_self, Nat.mul_one, Nat.zero_mul, Nat.one_mul, Int.le_refl, Nat.le_refl, Int.cast_ofNat_Int, Try.f14, sliceG]
  refine pwpC_loopU (A := { k : Nat // k ≤ 8 }) [0, 1] (fun k => [(2, .t (.int .i64 k.1))]) (fun k => [(1, rwS (decide (1 < k.1)) [.int .i64 0, .int .i64 0, .int .i64 (-10), .int .i64 10, .int .i64 20, .int .i64 40]), (2, rwS (decide (1 < k.1)) [.int .i64 0, .int .i64 6, .int .i64 (-4), .int .i64 4]), (4, rwS (decide (2 < k.1)) [.int .i64 0, .int .i64 0, .int .i64 10, .int .i64 (-10), .int .i64 20, .int .i64 40]), (5, rwS (decide (2 < k.1)) [.int .i64 0, .int .i64 6, .int .i64 (-4), .int .i64 4]), (7, rwS (decide (3 < k.1)) [.int .i64 0, .int .i64 0, .int .i64 (-10), .int .i64 601, .int .i64 20, .int .i64 40]), (8, rwS (decide (3 < k.1)) [.int .i64 0, .int .i64 6, .int .i64 (-4), .int .i64 4]), (10, rwS (decide (4 < k.1)) [.int .i64 0, .int .i64 0, .int .i64 (-10), .int .i64 10, .int .i64 20, .int .i64 40]), (11, rwS (decide (4 < k.1)) [.int .i64 0, .int .i64 6, .int .i64 (-4), .int .i64 4]), (13, rwS (decide (5 < k.1)) [.int .i64 0, .int .i64 0, .int .i64 (-10), .int .i64 10, .int .i64 20, .int .i64 40]), (14, rwS (decide (5 < k.1)) [.int .i64 0, .int .i64 6, .int .i64 (-4), .int .i64 4]), (16, rwS (decide (6 < k.1)) [.int .i64 0, .int .i64 0, .int .i64 (-10), .int .i64 10, .int .i64 20, .int .i64 40]), (17, rwS (decide (6 < k.1)) [.int .i64 (-121), .int .i64 0, .int .i64 (-4), .int .i64 4]), (19, rwS (decide (7 < k.1)) [.int .i64 0, .int .i64 0, .int .i64 (-10), .int .i64 10, .int .i64 20, .int .i64 40]), (20, rwS (decide (7 < k.1)) [.int .i64 0, .int .i64 6, .int .i64 (-4), .int .i64 4])]) (fun k => 8 - k.1) ⟨0, by omega⟩ (by decide) (fun _ => by rfl) ?_ fun Q1 hQ1 ⟨k, hk⟩ I1 hI1 => ?_
  · simp (decide := true) (maxSteps := 4000000) only [go_sem, Nat.reduceAdd, Nat.reduceSub, Nat.reduceMul, Nat.reduceDiv, Nat.reduceMod, Nat.reduceLT, Nat.reduceLeDiff, Nat.reduceEqDiff, Nat.reduceBEq, Nat.reduceBNe, Nat.reduceGT, Int.reduceAdd, Int.reduceSub, Int.reduceMul, Int.reduceNeg, Int.reduceLT, Int.reduceLE, Int.reduceEq, Int.reduceNe, Int.reduceBEq, Int.reduceBNe, Int.reduceToNat, Int.reduceGT, Int.reduceGE, ↓reduceIte, decide_true, decide_false, eq_self, Nat.mul_one, Nat.zero_mul, Nat.one_mul, Int.le_refl, Nat.le_refl, Int.cast_ofNat_Int, rwS]
  · rcases (show k = 0 ∨ k = 1 ∨ k = 2 ∨ k = 3 ∨ k = 4 ∨ k = 5 ∨ k = 6 ∨ k = 7 ∨ k = 8 by omega) with rfl | rfl | rfl | rfl | rfl | rfl | rfl | rfl | rfl
    · have c1 : (0 : Int) < 8 := by decide
      have hb := exN0
      simp (decide := true) (maxSteps := 4000000) only [go_sem, Nat.reduceAdd, Nat.reduceSub, Nat.reduceMul, Nat.reduceDiv, Nat.reduceMod, Nat.reduceLT, Nat.reduceLeDiff, Nat.reduceEqDiff, Nat.reduceBEq, Nat.reduceBNe, Nat.reduceGT, Int.reduceAdd, Int.reduceSub, Int.reduceMul, Int.reduceNeg, Int.reduceLT, Int.reduceLE, Int.reduceEq, Int.reduceNe, Int.reduceBEq, Int.reduceBNe, Int.reduceToNat, Int.reduceGT, Int.reduceGE, ↓reduceIte, decide_true, decide_false, eq_self, Nat.mul_one, Nat.zero_mul, Nat.one_mul, Int.le_refl, Nat.le_refl, Int.cast_ofNat_Int, rwS, sliceG, freezeW, freezeO, closedG, seenF, wr, upo, thawA, c1, eT, eT2, eT3, eT7, eS, eS6, uN, q0, hb, bad_read hb, bad_index hb, bad_trial hb, bad_false hb, bad_class hb, b50, n0, n1, unSun_nil, unTr_nil, List.length_nil, List.length_cons, Span.t, Span.cs]
      refine hI1 _ ⟨1, by omega⟩ (by simp only; omega) ?_
      simp (decide := true) (maxSteps := 4000000) only [go_sem, Nat.reduceAdd, Nat.reduceSub, Nat.reduceMul, Nat.reduceDiv, Nat.reduceMod, Nat.reduceLT, Nat.reduceLeDiff, Nat.reduceEqDiff, Nat.reduceBEq, Nat.reduceBNe, Nat.reduceGT, Int.reduceAdd, Int.reduceSub, Int.reduceMul, Int.reduceNeg, Int.reduceLT, Int.reduceLE, Int.reduceEq, Int.reduceNe, Int.reduceBEq, Int.reduceBNe, Int.reduceToNat, Int.reduceGT, Int.reduceGE, ↓reduceIte, decide_true, decide_false, eq_self, Nat.mul_one, Nat.zero_mul, Nat.one_mul, Int.le_refl, Nat.le_refl, Int.cast_ofNat_Int, rwS, wl1]
    · have c1 : (1 : Int) < 8 := by decide
      have hb := exN1
      simp (decide := true) (maxSteps := 4000000) only [go_sem, Nat.reduceAdd, Nat.reduceSub, Nat.reduceMul, Nat.reduceDiv, Nat.reduceMod, Nat.reduceLT, Nat.reduceLeDiff, Nat.reduceEqDiff, Nat.reduceBEq, Nat.reduceBNe, Nat.reduceGT, Int.reduceAdd, Int.reduceSub, Int.reduceMul, Int.reduceNeg, Int.reduceLT, Int.reduceLE, Int.reduceEq, Int.reduceNe, Int.reduceBEq, Int.reduceBNe, Int.reduceToNat, Int.reduceGT, Int.reduceGE, ↓reduceIte, decide_true, decide_false, eq_self, Nat.mul_one, Nat.zero_mul, Nat.one_mul, Int.le_refl, Nat.le_refl, Int.cast_ofNat_Int, rwS, sliceG, freezeW, freezeO, closedG, seenF, wr, upo, thawA, c1, eT, eT2, eT3, eT7, eS, eS6, uN, q1, hb, bad_read hb, bad_index hb, bad_trial hb, bad_false hb, bad_class hb, b50, n0, n1, unSun_nil, unTr_nil, List.length_nil, List.length_cons, Span.t, Span.cs]
      refine hI1 _ ⟨2, by omega⟩ (by simp only; omega) ?_
      simp (decide := true) (maxSteps := 4000000) only [go_sem, Nat.reduceAdd, Nat.reduceSub, Nat.reduceMul, Nat.reduceDiv, Nat.reduceMod, Nat.reduceLT, Nat.reduceLeDiff, Nat.reduceEqDiff, Nat.reduceBEq, Nat.reduceBNe, Nat.reduceGT, Int.reduceAdd, Int.reduceSub, Int.reduceMul, Int.reduceNeg, Int.reduceLT, Int.reduceLE, Int.reduceEq, Int.reduceNe, Int.reduceBEq, Int.reduceBNe, Int.reduceToNat, Int.reduceGT, Int.reduceGE, ↓reduceIte, decide_true, decide_false, eq_self, Nat.mul_one, Nat.zero_mul, Nat.one_mul, Int.le_refl, Nat.le_refl, Int.cast_ofNat_Int, rwS, wl2]
    · have c1 : (2 : Int) < 8 := by decide
      have hb := exN2
      simp (decide := true) (maxSteps := 4000000) only [go_sem, Nat.reduceAdd, Nat.reduceSub, Nat.reduceMul, Nat.reduceDiv, Nat.reduceMod, Nat.reduceLT, Nat.reduceLeDiff, Nat.reduceEqDiff, Nat.reduceBEq, Nat.reduceBNe, Nat.reduceGT, Int.reduceAdd, Int.reduceSub, Int.reduceMul, Int.reduceNeg, Int.reduceLT, Int.reduceLE, Int.reduceEq, Int.reduceNe, Int.reduceBEq, Int.reduceBNe, Int.reduceToNat, Int.reduceGT, Int.reduceGE, ↓reduceIte, decide_true, decide_false, eq_self, Nat.mul_one, Nat.zero_mul, Nat.one_mul, Int.le_refl, Nat.le_refl, Int.cast_ofNat_Int, rwS, sliceG, freezeW, freezeO, closedG, seenF, wr, upo, thawA, c1, eT, eT2, eT3, eT7, eS, eS6, uN, q2, hb, bad_read hb, bad_index hb, bad_trial hb, bad_false hb, bad_class hb, b50, n0, n1, unSun_nil, unTr_nil, List.length_nil, List.length_cons, Span.t, Span.cs]
      refine hI1 _ ⟨3, by omega⟩ (by simp only; omega) ?_
      simp (decide := true) (maxSteps := 4000000) only [go_sem, Nat.reduceAdd, Nat.reduceSub, Nat.reduceMul, Nat.reduceDiv, Nat.reduceMod, Nat.reduceLT, Nat.reduceLeDiff, Nat.reduceEqDiff, Nat.reduceBEq, Nat.reduceBNe, Nat.reduceGT, Int.reduceAdd, Int.reduceSub, Int.reduceMul, Int.reduceNeg, Int.reduceLT, Int.reduceLE, Int.reduceEq, Int.reduceNe, Int.reduceBEq, Int.reduceBNe, Int.reduceToNat, Int.reduceGT, Int.reduceGE, ↓reduceIte, decide_true, decide_false, eq_self, Nat.mul_one, Nat.zero_mul, Nat.one_mul, Int.le_refl, Nat.le_refl, Int.cast_ofNat_Int, rwS, wl3]
    · have c1 : (3 : Int) < 8 := by decide
      have hb := exN3
      simp (decide := true) (maxSteps := 4000000) only [go_sem, Nat.reduceAdd, Nat.reduceSub, Nat.reduceMul, Nat.reduceDiv, Nat.reduceMod, Nat.reduceLT, Nat.reduceLeDiff, Nat.reduceEqDiff, Nat.reduceBEq, Nat.reduceBNe, Nat.reduceGT, Int.reduceAdd, Int.reduceSub, Int.reduceMul, Int.reduceNeg, Int.reduceLT, Int.reduceLE, Int.reduceEq, Int.reduceNe, Int.reduceBEq, Int.reduceBNe, Int.reduceToNat, Int.reduceGT, Int.reduceGE, ↓reduceIte, decide_true, decide_false, eq_self, Nat.mul_one, Nat.zero_mul, Nat.one_mul, Int.le_refl, Nat.le_refl, Int.cast_ofNat_Int, rwS, sliceG, freezeW, freezeO, closedG, seenF, wr, upo, thawA, c1, eT, eT2, eT3, eT7, eS, eS6, uN, q3, hb, bad_read hb, bad_index hb, bad_trial hb, bad_false hb, bad_class hb, b50, n0, n1, unSun_nil, unTr_nil, List.length_nil, List.length_cons, Span.t, Span.cs]
      refine hI1 _ ⟨4, by omega⟩ (by simp only; omega) ?_
      simp (decide := true) (maxSteps := 4000000) only [go_sem, Nat.reduceAdd, Nat.reduceSub, Nat.reduceMul, Nat.reduceDiv, Nat.reduceMod, Nat.reduceLT, Nat.reduceLeDiff, Nat.reduceEqDiff, Nat.reduceBEq, Nat.reduceBNe, Nat.reduceGT, Int.reduceAdd, Int.reduceSub, Int.reduceMul, Int.reduceNeg, Int.reduceLT, Int.reduceLE, Int.reduceEq, Int.reduceNe, Int.reduceBEq, Int.reduceBNe, Int.reduceToNat, Int.reduceGT, Int.reduceGE, ↓reduceIte, decide_true, decide_false, eq_self, Nat.mul_one, Nat.zero_mul, Nat.one_mul, Int.le_refl, Nat.le_refl, Int.cast_ofNat_Int, rwS, wl4]
    · have c1 : (4 : Int) < 8 := by decide
      have hb := exN4
      simp (decide := true) (maxSteps := 4000000) only [go_sem, Nat.reduceAdd, Nat.reduceSub, Nat.reduceMul, Nat.reduceDiv, Nat.reduceMod, Nat.reduceLT, Nat.reduceLeDiff, Nat.reduceEqDiff, Nat.reduceBEq, Nat.reduceBNe, Nat.reduceGT, Int.reduceAdd, Int.reduceSub, Int.reduceMul, Int.reduceNeg, Int.reduceLT, Int.reduceLE, Int.reduceEq, Int.reduceNe, Int.reduceBEq, Int.reduceBNe, Int.reduceToNat, Int.reduceGT, Int.reduceGE, ↓reduceIte, decide_true, decide_false, eq_self, Nat.mul_one, Nat.zero_mul, Nat.one_mul, Int.le_refl, Nat.le_refl, Int.cast_ofNat_Int, rwS, sliceG, freezeW, freezeO, closedG, seenF, wr, upo, thawA, c1, eT, eT2, eT3, eT7, eS, eS6, uN, q4, hb, bad_read hb, bad_index hb, bad_trial hb, bad_false hb, bad_class hb, b50, n0, n1, unSun_nil, unTr_nil, List.length_nil, List.length_cons, Span.t, Span.cs]
      refine hI1 _ ⟨5, by omega⟩ (by simp only; omega) ?_
      simp (decide := true) (maxSteps := 4000000) only [go_sem, Nat.reduceAdd, Nat.reduceSub, Nat.reduceMul, Nat.reduceDiv, Nat.reduceMod, Nat.reduceLT, Nat.reduceLeDiff, Nat.reduceEqDiff, Nat.reduceBEq, Nat.reduceBNe, Nat.reduceGT, Int.reduceAdd, Int.reduceSub, Int.reduceMul, Int.reduceNeg, Int.reduceLT, Int.reduceLE, Int.reduceEq, Int.reduceNe, Int.reduceBEq, Int.reduceBNe, Int.reduceToNat, Int.reduceGT, Int.reduceGE, ↓reduceIte, decide_true, decide_false, eq_self, Nat.mul_one, Nat.zero_mul, Nat.one_mul, Int.le_refl, Nat.le_refl, Int.cast_ofNat_Int, rwS, wl5]
    · have c1 : (5 : Int) < 8 := by decide
      have hb := exN5
      simp (decide := true) (maxSteps := 4000000) only [go_sem, Nat.reduceAdd, Nat.reduceSub, Nat.reduceMul, Nat.reduceDiv, Nat.reduceMod, Nat.reduceLT, Nat.reduceLeDiff, Nat.reduceEqDiff, Nat.reduceBEq, Nat.reduceBNe, Nat.reduceGT, Int.reduceAdd, Int.reduceSub, Int.reduceMul, Int.reduceNeg, Int.reduceLT, Int.reduceLE, Int.reduceEq, Int.reduceNe, Int.reduceBEq, Int.reduceBNe, Int.reduceToNat, Int.reduceGT, Int.reduceGE, ↓reduceIte, decide_true, decide_false, eq_self, Nat.mul_one, Nat.zero_mul, Nat.one_mul, Int.le_refl, Nat.le_refl, Int.cast_ofNat_Int, rwS, sliceG, freezeW, freezeO, closedG, seenF, wr, upo, thawA, c1, eT, eT2, eT3, eT7, eS, eS6, uN, q5, hb, bad_read hb, bad_index hb, bad_trial hb, bad_false hb, bad_class hb, b50, n0, n1, unSun_nil, unTr_nil, List.length_nil, List.length_cons, Span.t, Span.cs]
      refine hI1 _ ⟨6, by omega⟩ (by simp only; omega) ?_
      simp (decide := true) (maxSteps := 4000000) only [go_sem, Nat.reduceAdd, Nat.reduceSub, Nat.reduceMul, Nat.reduceDiv, Nat.reduceMod, Nat.reduceLT, Nat.reduceLeDiff, Nat.reduceEqDiff, Nat.reduceBEq, Nat.reduceBNe, Nat.reduceGT, Int.reduceAdd, Int.reduceSub, Int.reduceMul, Int.reduceNeg, Int.reduceLT, Int.reduceLE, Int.reduceEq, Int.reduceNe, Int.reduceBEq, Int.reduceBNe, Int.reduceToNat, Int.reduceGT, Int.reduceGE, ↓reduceIte, decide_true, decide_false, eq_self, Nat.mul_one, Nat.zero_mul, Nat.one_mul, Int.le_refl, Nat.le_refl, Int.cast_ofNat_Int, rwS, wl6]
    · have c1 : (6 : Int) < 8 := by decide
      have hb := exN6
      simp (decide := true) (maxSteps := 4000000) only [go_sem, Nat.reduceAdd, Nat.reduceSub, Nat.reduceMul, Nat.reduceDiv, Nat.reduceMod, Nat.reduceLT, Nat.reduceLeDiff, Nat.reduceEqDiff, Nat.reduceBEq, Nat.reduceBNe, Nat.reduceGT, Int.reduceAdd, Int.reduceSub, Int.reduceMul, Int.reduceNeg, Int.reduceLT, Int.reduceLE, Int.reduceEq, Int.reduceNe, Int.reduceBEq, Int.reduceBNe, Int.reduceToNat, Int.reduceGT, Int.reduceGE, ↓reduceIte, decide_true, decide_false, eq_self, Nat.mul_one, Nat.zero_mul, Nat.one_mul, Int.le_refl, Nat.le_refl, Int.cast_ofNat_Int, rwS, sliceG, freezeW, freezeO, closedG, seenF, wr, upo, thawA, c1, eT, eT2, eT3, eT7, eS, eS6, uN, q6, hb, bad_read hb, bad_index hb, bad_trial hb, bad_false hb, bad_class hb, b50, n0, n1, unSun_nil, unTr_nil, List.length_nil, List.length_cons, Span.t, Span.cs]
      refine hI1 _ ⟨7, by omega⟩ (by simp only; omega) ?_
      simp (decide := true) (maxSteps := 4000000) only [go_sem, Nat.reduceAdd, Nat.reduceSub, Nat.reduceMul, Nat.reduceDiv, Nat.reduceMod, Nat.reduceLT, Nat.reduceLeDiff, Nat.reduceEqDiff, Nat.reduceBEq, Nat.reduceBNe, Nat.reduceGT, Int.reduceAdd, Int.reduceSub, Int.reduceMul, Int.reduceNeg, Int.reduceLT, Int.reduceLE, Int.reduceEq, Int.reduceNe, Int.reduceBEq, Int.reduceBNe, Int.reduceToNat, Int.reduceGT, Int.reduceGE, ↓reduceIte, decide_true, decide_false, eq_self, Nat.mul_one, Nat.zero_mul, Nat.one_mul, Int.le_refl, Nat.le_refl, Int.cast_ofNat_Int, rwS, wl7]
    · have c1 : (7 : Int) < 8 := by decide
      have hb := exN7
      simp (decide := true) (maxSteps := 4000000) only [go_sem, Nat.reduceAdd, Nat.reduceSub, Nat.reduceMul, Nat.reduceDiv, Nat.reduceMod, Nat.reduceLT, Nat.reduceLeDiff, Nat.reduceEqDiff, Nat.reduceBEq, Nat.reduceBNe, Nat.reduceGT, Int.reduceAdd, Int.reduceSub, Int.reduceMul, Int.reduceNeg, Int.reduceLT, Int.reduceLE, Int.reduceEq, Int.reduceNe, Int.reduceBEq, Int.reduceBNe, Int.reduceToNat, Int.reduceGT, Int.reduceGE, ↓reduceIte, decide_true, decide_false, eq_self, Nat.mul_one, Nat.zero_mul, Nat.one_mul, Int.le_refl, Nat.le_refl, Int.cast_ofNat_Int, rwS, sliceG, freezeW, freezeO, closedG, seenF, wr, upo, thawA, c1, eT, eT2, eT3, eT7, eS, eS6, uN, q7, hb, bad_read hb, bad_index hb, bad_trial hb, bad_false hb, bad_class hb, b50, n0, n1, unSun_nil, unTr_nil, List.length_nil, List.length_cons, Span.t, Span.cs]
      refine hI1 _ ⟨8, by omega⟩ (by simp only; omega) ?_
      simp (decide := true) (maxSteps := 4000000) only [go_sem, Nat.reduceAdd, Nat.reduceSub, Nat.reduceMul, Nat.reduceDiv, Nat.reduceMod, Nat.reduceLT, Nat.reduceLeDiff, Nat.reduceEqDiff, Nat.reduceBEq, Nat.reduceBNe, Nat.reduceGT, Int.reduceAdd, Int.reduceSub, Int.reduceMul, Int.reduceNeg, Int.reduceLT, Int.reduceLE, Int.reduceEq, Int.reduceNe, Int.reduceBEq, Int.reduceBNe, Int.reduceToNat, Int.reduceGT, Int.reduceGE, ↓reduceIte, decide_true, decide_false, eq_self, Nat.mul_one, Nat.zero_mul, Nat.one_mul, Int.le_refl, Nat.le_refl, Int.cast_ofNat_Int, rwS, wl8]
    · simp (decide := true) (maxSteps := 4000000) only [go_sem, Nat.reduceAdd, Nat.reduceSub, Nat.reduceMul, Nat.reduceDiv, Nat.reduceMod, Nat.reduceLT, Nat.reduceLeDiff, Nat.reduceEqDiff, Nat.reduceBEq, Nat.reduceBNe, Nat.reduceGT, Int.reduceAdd, Int.reduceSub, Int.reduceMul, Int.reduceNeg, Int.reduceLT, Int.reduceLE, Int.reduceEq, Int.reduceNe, Int.reduceBEq, Int.reduceBNe, Int.reduceToNat, Int.reduceGT, Int.reduceGE, ↓reduceIte, decide_true, decide_false, eq_self, Nat.mul_one, Nat.zero_mul, Nat.one_mul, Int.le_refl, Nat.le_refl, Int.cast_ofNat_Int, rwS]
      refine hQ1 _ _ ?_
      simp (decide := true) (maxSteps := 4000000) only [go_sem, Nat.reduceAdd, Nat.reduceSub, Nat.reduceMul, Nat.reduceDiv, Nat.reduceMod, Nat.reduceLT, Nat.reduceLeDiff, Nat.reduceEqDiff, Nat.reduceBEq, Nat.reduceBNe, Nat.reduceGT, Int.reduceAdd, Int.reduceSub, Int.reduceMul, Int.reduceNeg, Int.reduceLT, Int.reduceLE, Int.reduceEq, Int.reduceNe, Int.reduceBEq, Int.reduceBNe, Int.reduceToNat, Int.reduceGT, Int.reduceGE, ↓reduceIte, decide_true, decide_false, eq_self, Nat.mul_one, Nat.zero_mul, Nat.one_mul, Int.le_refl, Nat.le_refl, Int.cast_ofNat_Int, rwS, sliceG, freezeW, freezeO, closedG, seenF, wr, upo, thawA, eT, eS, eL, eF, uN, qo, ql, qf, u1, u2, u3, u4, v1, v2, v3, v4, x1, x2, x3, w01, List.append_eq, ua, ls, lt, lt2, lp, lp2, lp3, kLong, kR1, kR2, kR3, kR4, kI1, kI2, kI3, kI4, kT1, kT2, kF1, kF2, kC, kA1, kA2, kA3, kA4, kA5, exStock, kD3, kD4, sunsT, trialsT, b50, n0, n1, z0, List.length_nil, List.length_cons, Span.t, Span.cs]
end Go.Proofs.Ytjmkccckohcfkaa

/- Part Ox. -/
namespace Go.Proofs.Ytjmkccckohcfkaa
open Go.RowKit Go.Pm Go.Oc Go.Oh Go.Os
set_option maxRecDepth 100000
set_option linter.unusedVariables false

theorem slice_cells {k : Nat} {t e : TypeId} {cs : List TV} (hu : Program.underlying Try.prog t = some (.slice e)) (h : cellsOk Try.prog (k + 1) t cs) : ∃ x, cs = [x] ∧ cellsOk Try.prog (k + 1) t [x] := by
  have h' := h
  unfold cellsOk at h'
  rw [hu] at h'
  rcases h' with h' | ⟨rows, full, h', _⟩
  · exact ⟨_, h', by rw [← h']; exact h⟩
  · exact ⟨_, h', by rw [← h']; exact h⟩
theorem int_cells {k : Nat} {cs : List TV} (h : cellsOk Try.prog (k + 1) 3 cs) : ∃ n, cs = [.int .i64 n] ∧ -9223372036854775808 ≤ n ∧ n ≤ 9223372036854775807 := cellsOk_i64 (by kernel_rfl) h
theorem span_cells {k : Nat} {cs : List TV} (h : cellsOk Try.prog (k + 2) 24 cs) : ∃ s : Span, cs = s.cs ∧ (-9223372036854775808 ≤ s.lo ∧ s.lo ≤ 9223372036854775807) ∧ -9223372036854775808 ≤ s.hi ∧ s.hi ≤ 9223372036854775807 := by
  have h := cellsOk_tys (ts := [3, 3]) (by kernel_rfl) h
  obtain ⟨_, r, rfl, h1, h⟩ := seqOk_cons h
  obtain ⟨_, r, rfl, h2, h⟩ := seqOk_cons h
  cases seqOk_nil h
  obtain ⟨a, rfl, ha⟩ := int_cells h1
  obtain ⟨b, rfl, hb⟩ := int_cells h2
  exact ⟨⟨a, b⟩, rfl, ha, hb⟩
theorem ints_cells {x : TV} {k : Nat} (h : cellsOk Try.prog (k + 2) 45 [x]) : ∃ l : List Int, IsRow ic x l ∧ l.length ≤ 17592186044415 ∧ ∀ n ∈ l, -9223372036854775808 ≤ n ∧ n ≤ 9223372036854775807 := by
  obtain ⟨l, h1, h2, h3, _⟩ := cellsOk_row (e := 3) (c := ic) (p := fun n => -9223372036854775808 ≤ n ∧ n ≤ 9223372036854775807) (by kernel_rfl) (fun cs hc => int_cells hc) h
  rw [show Program.bytesOf Try.prog 3 = 8 by kernel_rfl] at h3
  unfold reachBytes at h3
  exact ⟨l, h1, by omega, h2⟩
theorem spans_cells {x : TV} {k : Nat} (h : cellsOk Try.prog (k + 3) 22 [x]) : ∃ l : List Span, IsRow Span.cs x l ∧ l.length ≤ 9000000000000 ∧ ∀ s ∈ l, (-9223372036854775808 ≤ s.lo ∧ s.lo ≤ 9223372036854775807) ∧ -9223372036854775808 ≤ s.hi ∧ s.hi ≤ 9223372036854775807 := by
  obtain ⟨l, h1, h2, h3, _⟩ := cellsOk_row (e := 24) (c := Span.cs) (p := fun s : Span => (-9223372036854775808 ≤ s.lo ∧ s.lo ≤ 9223372036854775807) ∧ -9223372036854775808 ≤ s.hi ∧ s.hi ≤ 9223372036854775807) (by kernel_rfl) (fun cs hc => span_cells hc) h
  rw [show Program.bytesOf Try.prog 24 = 16 by kernel_rfl] at h3
  unfold reachBytes at h3
  exact ⟨l, h1, by omega, h2⟩
theorem sun_cells {k : Nat} {cs : List TV} (h : cellsOk Try.prog (k + 2) 67 cs) : ∃ s : Sun, cs = s.cs ∧ True := by
  have h := cellsOk_tys (ts := [3, 3]) (by kernel_rfl) h
  obtain ⟨_, r, rfl, h1, h⟩ := seqOk_cons h
  obtain ⟨_, r, rfl, h2, h⟩ := seqOk_cons h
  cases seqOk_nil h
  obtain ⟨a, rfl, ha⟩ := int_cells h1
  obtain ⟨b, rfl, hb⟩ := int_cells h2
  exact ⟨⟨a, b⟩, rfl, trivial⟩
theorem read_cells {k : Nat} {cs : List TV} (h : cellsOk Try.prog (k + 2) 28 cs) : ∃ a b : Int, cs = [.int .i64 a, .int .i64 b] ∧ (-9223372036854775808 ≤ a ∧ a ≤ 9223372036854775807) ∧ -9223372036854775808 ≤ b ∧ b ≤ 9223372036854775807 := by
  have h := cellsOk_tys (ts := [3, 3]) (by kernel_rfl) h
  obtain ⟨_, r, rfl, h1, h⟩ := seqOk_cons h
  obtain ⟨_, r, rfl, h2, h⟩ := seqOk_cons h
  cases seqOk_nil h
  obtain ⟨a, rfl, ha⟩ := int_cells h1
  obtain ⟨b, rfl, hb⟩ := int_cells h2
  exact ⟨a, b, rfl, ha, hb⟩
theorem trial_cells {k : Nat} {cs : List TV} (h : cellsOk Try.prog (k + 3) 84 cs) : ∃ p : Tr, cs = p.cs ∧ True := by
  have h := cellsOk_tys (ts := [28, 3]) (by kernel_rfl) h
  obtain ⟨_, r, rfl, h1, h⟩ := seqOk_cons h
  obtain ⟨_, r, rfl, h2, h⟩ := seqOk_cons h
  cases seqOk_nil h
  obtain ⟨a, b, rfl, _⟩ := read_cells h1
  obtain ⟨c, rfl, _⟩ := int_cells h2
  exact ⟨⟨a, b, c⟩, rfl, trivial⟩
theorem part_cells {k : Nat} {cs : List TV} (h : cellsOk Try.prog (k + 4) 77 cs) : ∃ p : Pt, cs = p.cs ∧ decP p = true := by
  have h := cellsOk_tys (ts := [3, 3, 22]) (by kernel_rfl) h
  obtain ⟨_, r, rfl, h1, h⟩ := seqOk_cons h
  obtain ⟨_, r, rfl, h2, h⟩ := seqOk_cons h
  obtain ⟨_, r, rfl, h3, h⟩ := seqOk_cons h
  cases seqOk_nil h
  obtain ⟨a, rfl, _⟩ := int_cells h1
  obtain ⟨b, rfl, _⟩ := int_cells h2
  obtain ⟨c, rfl, h3⟩ := slice_cells (e := 24) (by kernel_rfl) h3
  obtain ⟨l, hl, ll, _⟩ := spans_cells h3
  refine ⟨⟨a, b, c⟩, rfl, ?_⟩
  unfold decP
  rw [show rowL unS (Pt.mk a b c).s = some l from rowS_is hl]
  exact decide_eq_true ll
theorem sxArg {x : TV} (h : argOk Try.prog 26 x) : ∃ (s : Sx) (sT sS : TV), x = s.t sT sS ∧ IsRow Span.cs sT s.tab ∧ IsRow Span.cs sS s.shade ∧ s.tab.length ≤ 9000000000000 ∧ s.shade.length ≤ 9000000000000 := by
  obtain ⟨cs, rfl, h'⟩ := argOk_agg (ts := [3, 22, 24, 3, 22]) (by kernel_rfl) h
  have h := cellsOk_tys (ts := [3, 22, 24, 3, 22]) (by kernel_rfl) h'
  obtain ⟨_, r, rfl, h1, h⟩ := seqOk_cons h
  obtain ⟨_, r, rfl, h2, h⟩ := seqOk_cons h
  obtain ⟨_, r, rfl, h3, h⟩ := seqOk_cons h
  obtain ⟨_, r, rfl, h4, h⟩ := seqOk_cons h
  obtain ⟨_, r, rfl, h5, h⟩ := seqOk_cons h
  cases seqOk_nil h
  obtain ⟨a, rfl, _⟩ := int_cells h1
  obtain ⟨b, rfl, h2⟩ := slice_cells (e := 24) (by kernel_rfl) h2
  obtain ⟨c, rfl, _⟩ := span_cells h3
  obtain ⟨d, rfl, _⟩ := int_cells h4
  obtain ⟨e, rfl, h5⟩ := slice_cells (e := 24) (by kernel_rfl) h5
  obtain ⟨T, hT, lT, _⟩ := spans_cells h2
  obtain ⟨S, hS, lS, _⟩ := spans_cells h5
  exact ⟨⟨a, T, c, d, S⟩, b, e, rfl, hT, hS, lT, lS⟩
theorem rdArg {x : TV} (h : argOk Try.prog 28 x) : ∃ a b : Int, x = .agg [.int .i64 a, .int .i64 b] := by
  obtain ⟨cs, rfl, h'⟩ := argOk_agg (ts := [3, 3]) (by kernel_rfl) h
  obtain ⟨a, b, rfl, _⟩ := read_cells h'
  exact ⟨a, b, rfl⟩
theorem spArg {x : TV} (h : argOk Try.prog 24 x) : ∃ s : Span, x = s.t ∧ (-9223372036854775808 ≤ s.lo ∧ s.lo ≤ 9223372036854775807) ∧ -9223372036854775808 ≤ s.hi ∧ s.hi ≤ 9223372036854775807 := by
  obtain ⟨cs, rfl, h'⟩ := argOk_agg (ts := [3, 3]) (by kernel_rfl) h
  obtain ⟨s, rfl, h1, h2⟩ := span_cells h'
  exact ⟨s, rfl, h1, h2⟩
theorem intArg {x : TV} (h : argOk Try.prog 3 x) : ∃ n, x = .int .i64 n ∧ -9223372036854775808 ≤ n ∧ n ≤ 9223372036854775807 := argOk_i64 (by kernel_rfl) h
theorem intsArg {x : TV} (h : argOk Try.prog 45 x) : ∃ l : List Int, IsRow ic x l ∧ l.length ≤ 17592186044415 ∧ ∀ n ∈ l, -9223372036854775808 ≤ n ∧ n ≤ 9223372036854775807 := ints_cells (argOk_sl (e := 3) (by kernel_rfl) h)
theorem sunsArg {x : TV} (h : argOk Try.prog 37 x) : ∃ l : List Sun, IsRow Sun.cs x l ∧ l.length ≤ 9000000000000 := by
  obtain ⟨l, h1, _, h3, _⟩ := cellsOk_row (e := 67) (c := Sun.cs) (p := fun _ => True) (by kernel_rfl) (fun cs hc => sun_cells hc) (argOk_sl (e := 67) (by kernel_rfl) h)
  rw [show Program.bytesOf Try.prog 67 = 16 by kernel_rfl] at h3
  unfold reachBytes at h3
  exact ⟨l, h1, by omega⟩
theorem trialsArg {x : TV} (h : argOk Try.prog 41 x) : ∃ l : List Tr, IsRow Tr.cs x l ∧ l.length ≤ 9000000000000 := by
  obtain ⟨l, h1, _, h3, _⟩ := cellsOk_row (e := 84) (c := Tr.cs) (p := fun _ => True) (by kernel_rfl) (fun cs hc => trial_cells hc) (argOk_sl (e := 84) (by kernel_rfl) h)
  rw [show Program.bytesOf Try.prog 84 = 24 by kernel_rfl] at h3
  unfold reachBytes at h3
  exact ⟨l, h1, by omega⟩
theorem partsArg {x : TV} (h : argOk Try.prog 50 x) : ∃ l : List Pt, IsRow Pt.cs x l ∧ l.length ≤ 9000000000000 ∧ l.all decP = true := by
  obtain ⟨l, h1, h2, h3, _⟩ := cellsOk_row (e := 77) (c := Pt.cs) (p := fun p => decP p = true) (by kernel_rfl) (fun cs hc => part_cells hc) (argOk_sl (e := 77) (by kernel_rfl) h)
  rw [show Program.bytesOf Try.prog 77 = 40 by kernel_rfl] at h3
  unfold reachBytes at h3
  exact ⟨l, h1, by omega, List.all_eq_true.2 h2⟩
end Go.Proofs.Ytjmkccckohcfkaa
