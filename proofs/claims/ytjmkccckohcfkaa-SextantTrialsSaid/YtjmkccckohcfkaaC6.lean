/- What the claim leans on, text 6. -/
import Derived.Test.YtjmkccckohcfkaaC5
set_option linter.unusedSimpArgs false
set_option linter.unusedVariables false

/- Part Sr. -/
namespace Go.Os
open Go Go.Pm Go.Oc Go.Oh
def sum3 (A B C : List Span) (k : Nat) : Span := addS (addS (atS A k) (atS B k)) (atS C k)
def inBd (bound : Int) (s : Span) : Bool := decide (-bound ≤ s.lo) && decide (s.hi ≤ bound)
/-- Do three such parts fit? -/
def fitB (bound : Int) (b0 b1 b2 : Bool) (A B C : List Span) : Bool := b0 && (b1 && (b2 && (List.range A.length).all fun k => inBd bound (sum3 A B C k)))
def tlAll (l : List Span) (n : Nat) : Bool := decide (l.length = n) && l.all (spannedB · (-1000) 1000)
end Go.Os
namespace Go.Proofs.Ytjmkccckohcfkaa
open Go.RowKit Go.Pm Go.Oc Go.Oh Go.Os
set_option maxRecDepth 100000
set_option linter.unusedVariables false
set_option maxHeartbeats 8000000

theorem sIs_c (a b k : Int) (s : TV) : PCalls Try.prog 85 [.agg [.int .i64 a, .int .i64 b, s], .cptr [.int .i64 k]] (.bool (a == k)) := by
  refine pcalls_by Try.mixes noSpec_ok (fn := Try.f85) Try.func85 rfl (by kernel_rfl) (by show 2 ≤ _; decide) ?_
  simp (decide := true) (maxSteps := 4000000) only [go_sem, Nat.reduceAdd, Nat.reduceSub, Nat.reduceMul, Nat.reduceDiv, Nat.reduceMod, Nat.reduceLT, Nat.reduceLeDiff, Nat.reduceEqDiff, Nat.reduceBEq, Nat.reduceBNe, Nat.reduceGT, Int.reduceAdd, Int.reduceSub, Int.reduceMul, Int.reduceNeg, Int.reduceLT, Int.reduceLE, Int.reduceEq, Int.reduceNe, Int.reduceBEq, Int.reduceBNe, Int.reduceToNat, Int.reduceGT, Int.reduceGE, ↓reduceIte, decide_true, decide_false, eq_self, Nat.mul_one, Nat.zero_mul, Nat.one_mul, Int.le_refl, Nat.le_refl, Int.cast_ofNat_Int, Try.f85]
noncomputable def sxIs : List TV → Option TV
  | [.agg [.int .i64 a, .int .i64 b, s], .cptr [.int .i64 k]] => some (.bool (a == k))
  | _ => none
theorem sxIs_ok : ∀ xs r, sxIs xs = some r → PCalls Try.prog 85 xs r := by
  intro xs r h
  unfold sxIs at h
  split at h
  · cases h; exact sIs_c _ _ _ _
  · cases h
attribute [go_sem] sxIs
noncomputable def spRa : Pm.Spec := { noSpec with fz := fun _ => true }
@[go_sem] theorem spRa_p (f : FuncId) (xs : List TV) : spRa.p f xs = Pm.Spec.p ({ noSpec with fz := fun _ => true }) f xs := rfl
@[go_sem] theorem spRa_h (f : FuncId) (ps : List PV) (hl : List PO) : spRa.h f ps hl = Pm.Spec.h ({ noSpec with fz := fun _ => true }) f ps hl := rfl
@[go_sem] theorem spRa_fz (f : FuncId) : spRa.fz f = Pm.Spec.fz ({ noSpec with fz := fun _ => true }) f := rfl
@[go_sem] theorem spRa_fr (f : FuncId) : spRa.fr f = Pm.Spec.fr ({ noSpec with fz := fun _ => true }) f := rfl
@[go_sem] theorem spRa_mu (t : TypeId) : spRa.mu t = Pm.Spec.mu ({ noSpec with fz := fun _ => true }) t := rfl
@[go_sem] theorem spRa_nf (t : TypeId) : spRa.nf t = Pm.Spec.nf ({ noSpec with fz := fun _ => true }) t := rfl
theorem spRa_ok : SpecOk Try.prog spRa := ⟨noSpec_ok.1, noSpec_ok.2⟩
theorem sOf_c {l : List Pt} {i : Nat} {p : Pt} (hp : l[i]? = some p) (kind : Int) (f : Bool) : PCalls Try.prog 84 [.int .i64 i, .int .i64 kind, .cptr [.sl (l.flatMap Pt.cs) l.length f]] (.agg [.int .i64 p.k, .int .i64 p.p, p.s, .fn 85 [] [.cptr [.int .i64 kind]]]) := by
  have hd := flat_at Pt.cs (n := 3) (fun _ => rfl) hp
  have hlt : (i : Int) < l.length := by have := (List.getElem?_eq_some_iff.1 hp).1; omega
  refine pcalls_by Try.mixes spRa_ok (fn := Try.f84) Try.func84 rfl (by kernel_rfl) (by show 3 ≤ _; decide) ?_
  simp (decide := true) (maxSteps := 4000000) only [go_sem, Nat.reduceAdd, Nat.reduceSub, Nat.reduceMul, Nat.reduceDiv, Nat.reduceMod, Nat.reduceLT, Nat.reduceLeDiff, Nat.reduceEqDiff, Nat.reduceBEq, Nat.reduceBNe, Nat.reduceGT, Int.reduceAdd, Int.reduceSub, Int.reduceMul, Int.reduceNeg, Int.reduceLT, Int.reduceLE, Int.reduceEq, Int.reduceNe, Int.reduceBEq, Int.reduceBNe, Int.reduceToNat, Int.reduceGT, Int.reduceGE, ↓reduceIte, decide_true, decide_false, eq_self, Nat.mul_one, Nat.zero_mul, Nat.one_mul, Int.le_refl, Nat.le_refl, Int.cast_ofNat_Int, Try.f84, hd, hlt, Int.toNat_natCast, Pt.cs]
noncomputable def sxOf : List TV → Option TV
  | [.int .i64 i, .int .i64 kind, .cptr [.sl cs n f]] => match unP cs with
    | some l => if n = l.length ∧ 0 ≤ i then (match l[i.toNat]? with
      | some p => some (.agg [.int .i64 p.k, .int .i64 p.p, p.s, .fn 85 [] [.cptr [.int .i64 kind]]])
      | none => none) else none
    | none => none
  | _ => none
theorem sxOf_ok : ∀ xs r, sxOf xs = some r → PCalls Try.prog 84 xs r := by
  intro xs r h
  unfold sxOf at h
  split at h
  · split at h
    · rename_i l hl
      split at h
      · rename_i hc
        split at h
        · rename_i p hp
          cases h
          obtain ⟨rfl, h0⟩ := hc
          have := sOf_c hp
          rw [Int.toNat_of_nonneg h0, ← unP_some hl] at this
          exact this _ _
        · cases h
      · cases h
    · cases h
  · cases h
attribute [go_sem] sxOf
noncomputable def spRb : Pm.Spec := (noSpec.one 85 sxIs).one 95 sxSum
@[go_sem] theorem spRb_p (f : FuncId) (xs : List TV) : spRb.p f xs = Pm.Spec.p ((noSpec.one 85 sxIs).one 95 sxSum) f xs := rfl
@[go_sem] theorem spRb_h (f : FuncId) (ps : List PV) (hl : List PO) : spRb.h f ps hl = Pm.Spec.h ((noSpec.one 85 sxIs).one 95 sxSum) f ps hl := rfl
@[go_sem] theorem spRb_fz (f : FuncId) : spRb.fz f = Pm.Spec.fz ((noSpec.one 85 sxIs).one 95 sxSum) f := rfl
@[go_sem] theorem spRb_fr (f : FuncId) : spRb.fr f = Pm.Spec.fr ((noSpec.one 85 sxIs).one 95 sxSum) f := rfl
@[go_sem] theorem spRb_mu (t : TypeId) : spRb.mu t = Pm.Spec.mu ((noSpec.one 85 sxIs).one 95 sxSum) t := rfl
@[go_sem] theorem spRb_nf (t : TypeId) : spRb.nf t = Pm.Spec.nf ((noSpec.one 85 sxIs).one 95 sxSum) t := rfl
theorem spRb_ok : SpecOk Try.prog spRb := Spec.one_ok sxSum_ok (Spec.one_ok sxIs_ok noSpec_ok)
theorem sFit_c (bound k0 k1 k2 p0 p1 p2 c0 c1 c2 : Int) (A B C : List Span) (f0 f1 f2 f : Bool) (hb : 0 ≤ bound ∧ bound ≤ 5000) (hn : 1 ≤ A.length ∧ A.length ≤ 12) (hA : tlAll A A.length = true) (hB : tlAll B A.length = true) (hC : tlAll C A.length = true) :
    PCalls Try.prog 86 [.int .i64 bound, .sl [.int .i64 k0, .int .i64 p0, .sl (A.flatMap Span.cs) A.length f0, .fn 85 [] [.cptr [.int .i64 c0]], .int .i64 k1, .int .i64 p1, .sl (B.flatMap Span.cs) B.length f1, .fn 85 [] [.cptr [.int .i64 c1]],
      .int .i64 k2, .int .i64 p2, .sl (C.flatMap Span.cs) C.length f2, .fn 85 [] [.cptr [.int .i64 c2]]] 3 f] (.bool (fitB bound (k0 == c0) (k1 == c1) (k2 == c2) A B C)) := by
  have hBl : B.length = A.length := by unfold tlAll at hB; simp at hB; exact hB.1
  have hCl : C.length = A.length := by unfold tlAll at hC; simp at hC; exact hC.1
  have bd : ∀ (L : List Span), tlAll L A.length = true → ∀ s ∈ L, -1000 ≤ s.lo ∧ s.lo ≤ s.hi ∧ s.hi ≤ 1000 := fun L hL s hs => by
    unfold tlAll at hL
    rw [Bool.and_eq_true] at hL
    exact spannedB_iff.1 (List.all_eq_true.1 hL.2 s hs)
  refine pcalls_by Try.mixes spRb_ok (fn := Try.f86) Try.func86 rfl (by kernel_rfl) (by show 2 ≤ _; decide) ?_
  simp (decide := true) (maxSteps := 4000000) only [go_sem, Nat.reduceAdd, Nat.reduceSub, Nat.reduceMul, Nat.reduceDiv, Nat.reduceMod, Nat.reduceLT, Nat.reduceLeDiff, Nat.reduceEqDiff, Nat.reduceBEq, Nat.reduceBNe, Nat.reduceGT, Int.reduceAdd, Int.reduceSub, Int.reduceMul, Int.reduceNeg, Int.reduceLT, Int.reduceLE, Int.reduceEq, Int.reduceNe, Int.reduceBEq, Int.reduceBNe, Int.reduceToNat, Int.reduceGT, Int.reduceGE, ↓reduceIte, decide_true, decide_false, eq_self, Nat.mul_one, Nat.zero_mul, Nat.one_mul, Int.le_refl, Nat.le_refl, Int.cast_ofNat_Int, Try.f86]
  refine pwpC_loopU (A := { j : Nat // j ≤ 3 ∧ (0 < j → (k0 == c0) = true) ∧ (1 < j → (k1 == c1) = true) ∧ (2 < j → (k2 == c2) = true) }) [0, 1, 4, 9, 10] (fun j => [(11, .t (.int .i64 j.1))]) (fun _ => []) (fun j => 3 - j.1) ⟨0, by omega, by omega, by omega, by omega⟩ (by decide) (fun _ => by rfl) ?_ fun Q1 hQ1 ⟨j, hj, hj0, hj1, hj2⟩ I1 hI1 => ?_
  · simp (decide := true) (maxSteps := 4000000) only [go_sem, Nat.reduceAdd, Nat.reduceSub, Nat.reduceMul, Nat.reduceDiv, Nat.reduceMod, Nat.reduceLT, Nat.reduceLeDiff, Nat.reduceEqDiff, Nat.reduceBEq, Nat.reduceBNe, Nat.reduceGT, Int.reduceAdd, Int.reduceSub, Int.reduceMul, Int.reduceNeg, Int.reduceLT, Int.reduceLE, Int.reduceEq, Int.reduceNe, Int.reduceBEq, Int.reduceBNe, Int.reduceToNat, Int.reduceGT, Int.reduceGE, ↓reduceIte, decide_true, decide_false, eq_self, Nat.mul_one, Nat.zero_mul, Nat.one_mul, Int.le_refl, Nat.le_refl, Int.cast_ofNat_Int]
  · rcases (show j = 0 ∨ j = 1 ∨ j = 2 ∨ j = 3 by omega) with rfl | rfl | rfl | rfl
    · have d1 : (0 : Int) < 3 := by decide
      rcases (Bool.eq_false_or_eq_true (k0 == c0)).symm with hk | hk
      · simp (decide := true) (maxSteps := 4000000) only [go_sem, Nat.reduceAdd, Nat.reduceSub, Nat.reduceMul, Nat.reduceDiv, Nat.reduceMod, Nat.reduceLT, Nat.reduceLeDiff, Nat.reduceEqDiff, Nat.reduceBEq, Nat.reduceBNe, Nat.reduceGT, Int.reduceAdd, Int.reduceSub, Int.reduceMul, Int.reduceNeg, Int.reduceLT, Int.reduceLE, Int.reduceEq, Int.reduceNe, Int.reduceBEq, Int.reduceBNe, Int.reduceToNat, Int.reduceGT, Int.reduceGE, ↓reduceIte, decide_true, decide_false, eq_self, Nat.mul_one, Nat.zero_mul, Nat.one_mul, Int.le_refl, Nat.le_refl, Int.cast_ofNat_Int, d1, hk]
        refine hQ1 _ _ ?_
        simp (decide := true) (maxSteps := 4000000) only [go_sem, Nat.reduceAdd, Nat.reduceSub, Nat.reduceMul, Nat.reduceDiv, Nat.reduceMod, Nat.reduceLT, Nat.reduceLeDiff, Nat.reduceEqDiff, Nat.reduceBEq, Nat.reduceBNe, Nat.reduceGT, Int.reduceAdd, Int.reduceSub, Int.reduceMul, Int.reduceNeg, Int.reduceLT, Int.reduceLE, Int.reduceEq, Int.reduceNe, Int.reduceBEq, Int.reduceBNe, Int.reduceToNat, Int.reduceGT, Int.reduceGE, ↓reduceIte, decide_true, decide_false, eq_self, Nat.mul_one, Nat.zero_mul, Nat.one_mul, Int.le_refl, Nat.le_refl, Int.cast_ofNat_Int, fitB, hk, Bool.false_and]
      · simp (decide := true) (maxSteps := 4000000) only [go_sem, Nat.reduceAdd, Nat.reduceSub, Nat.reduceMul, Nat.reduceDiv, Nat.reduceMod, Nat.reduceLT, Nat.reduceLeDiff, Nat.reduceEqDiff, Nat.reduceBEq, Nat.reduceBNe, Nat.reduceGT, Int.reduceAdd, Int.reduceSub, Int.reduceMul, Int.reduceNeg, Int.reduceLT, Int.reduceLE, Int.reduceEq, Int.reduceNe, Int.reduceBEq, Int.reduceBNe, Int.reduceToNat, Int.reduceGT, Int.reduceGE, ↓reduceIte, decide_true, decide_false, eq_self, Nat.mul_one, Nat.zero_mul, Nat.one_mul, Int.le_refl, Nat.le_refl, Int.cast_ofNat_Int, d1, hk]
        refine hI1 _ ⟨1, by omega, fun _ => hk, by omega, by omega⟩ (by simp only; omega) ?_
        simp (decide := true) (maxSteps := 4000000) only [go_sem, Nat.reduceAdd, Nat.reduceSub, Nat.reduceMul, Nat.reduceDiv, Nat.reduceMod, Nat.reduceLT, Nat.reduceLeDiff, Nat.reduceEqDiff, Nat.reduceBEq, Nat.reduceBNe, Nat.reduceGT, Int.reduceAdd, Int.reduceSub, Int.reduceMul, Int.reduceNeg, Int.reduceLT, Int.reduceLE, Int.reduceEq, Int.reduceNe, Int.reduceBEq, Int.reduceBNe, Int.reduceToNat, Int.reduceGT, Int.reduceGE, ↓reduceIte, decide_true, decide_false, eq_self, Nat.mul_one, Nat.zero_mul, Nat.one_mul, Int.le_refl, Nat.le_refl, Int.cast_ofNat_Int, wl1]
    · have d1 : (1 : Int) < 3 := by decide
      rcases (Bool.eq_false_or_eq_true (k1 == c1)).symm with hk | hk
      · simp (decide := true) (maxSteps := 4000000) only [go_sem, Nat.reduceAdd, Nat.reduceSub, Nat.reduceMul, Nat.reduceDiv, Nat.reduceMod, Nat.reduceLT, Nat.reduceLeDiff, Nat.reduceEqDiff, Nat.reduceBEq, Nat.reduceBNe, Nat.reduceGT, Int.reduceAdd, Int.reduceSub, Int.reduceMul, Int.reduceNeg, Int.reduceLT, Int.reduceLE, Int.reduceEq, Int.reduceNe, Int.reduceBEq, Int.reduceBNe, Int.reduceToNat, Int.reduceGT, Int.reduceGE, ↓reduceIte, decide_true, decide_false, eq_self, Nat.mul_one, Nat.zero_mul, Nat.one_mul, Int.le_refl, Nat.le_refl, Int.cast_ofNat_Int, d1, hk]
        refine hQ1 _ _ ?_
        simp (decide := true) (maxSteps := 4000000) only [go_sem, Nat.reduceAdd, Nat.reduceSub, Nat.reduceMul, Nat.reduceDiv, Nat.reduceMod, Nat.reduceLT, Nat.reduceLeDiff, Nat.reduceEqDiff, Nat.reduceBEq, Nat.reduceBNe, Nat.reduceGT, Int.reduceAdd, Int.reduceSub, Int.reduceMul, Int.reduceNeg, Int.reduceLT, Int.reduceLE, Int.reduceEq, Int.reduceNe, Int.reduceBEq, Int.reduceBNe, Int.reduceToNat, Int.reduceGT, Int.reduceGE, ↓reduceIte, decide_true, decide_false, eq_self, Nat.mul_one, Nat.zero_mul, Nat.one_mul, Int.le_refl, Nat.le_refl, Int.cast_ofNat_Int, fitB, hk, hj0 (by omega), Bool.false_and, Bool.true_and]
      · simp (decide := true) (maxSteps := 4000000) only [go_sem, Nat.reduceAdd, Nat.reduceSub, Nat.reduceMul, Nat.reduceDiv, Nat.reduceMod, Nat.reduceLT, Nat.reduceLeDiff, Nat.reduceEqDiff, Nat.reduceBEq, Nat.reduceBNe, Nat.reduceGT, Int.reduceAdd, Int.reduceSub, Int.reduceMul, Int.reduceNeg, Int.reduceLT, Int.reduceLE, Int.reduceEq, Int.reduceNe, Int.reduceBEq, Int.reduceBNe, Int.reduceToNat, Int.reduceGT, Int.reduceGE, ↓reduceIte, decide_true, decide_false, eq_self, Nat.mul_one, Nat.zero_mul, Nat.one_mul, Int.le_refl, Nat.le_refl, Int.cast_ofNat_Int, d1, hk]
        refine hI1 _ ⟨2, by omega, fun _ => hj0 (by omega), fun _ => hk, by omega⟩ (by simp only; omega) ?_
        simp (decide := true) (maxSteps := 4000000) only [go_sem, Nat.reduceAdd, Nat.reduceSub, Nat.reduceMul, Nat.reduceDiv, Nat.reduceMod, Nat.reduceLT, Nat.reduceLeDiff, Nat.reduceEqDiff, Nat.reduceBEq, Nat.reduceBNe, Nat.reduceGT, Int.reduceAdd, Int.reduceSub, Int.reduceMul, Int.reduceNeg, Int.reduceLT, Int.reduceLE, Int.reduceEq, Int.reduceNe, Int.reduceBEq, Int.reduceBNe, Int.reduceToNat, Int.reduceGT, Int.reduceGE, ↓reduceIte, decide_true, decide_false, eq_self, Nat.mul_one, Nat.zero_mul, Nat.one_mul, Int.le_refl, Nat.le_refl, Int.cast_ofNat_Int, wl2]
    · have d1 : (2 : Int) < 3 := by decide
      rcases (Bool.eq_false_or_eq_true (k2 == c2)).symm with hk | hk
      · simp (decide := true) (maxSteps := 4000000) only [go_sem, Nat.reduceAdd, Nat.reduceSub, Nat.reduceMul, Nat.reduceDiv, Nat.reduceMod, Nat.reduceLT, Nat.reduceLeDiff, Nat.reduceEqDiff, Nat.reduceBEq, Nat.reduceBNe, Nat.reduceGT, Int.reduceAdd, Int.reduceSub, Int.reduceMul, Int.reduceNeg, Int.reduceLT, Int.reduceLE, Int.reduceEq, Int.reduceNe, Int.reduceBEq, Int.reduceBNe, Int.reduceToNat, Int.reduceGT, Int.reduceGE, ↓reduceIte, decide_true, decide_false, eq_self, Nat.mul_one, Nat.zero_mul, Nat.one_mul, Int.le_refl, Nat.le_refl, Int.cast_ofNat_Int, d1, hk]
        refine hQ1 _ _ ?_
        simp (decide := true) (maxSteps := 4000000) only [go_sem, Nat.reduceAdd, Nat.reduceSub, Nat.reduceMul, Nat.reduceDiv, Nat.reduceMod, Nat.reduceLT, Nat.reduceLeDiff, Nat.reduceEqDiff, Nat.reduceBEq, Nat.reduceBNe, Nat.reduceGT, Int.reduceAdd, Int.reduceSub, Int.reduceMul, Int.reduceNeg, Int.reduceLT, Int.reduceLE, Int.reduceEq, Int.reduceNe, Int.reduceBEq, Int.reduceBNe, Int.reduceToNat, Int.reduceGT, Int.reduceGE, ↓reduceIte, decide_true, decide_false, eq_self, Nat.mul_one, Nat.zero_mul, Nat.one_mul, Int.le_refl, Nat.le_refl, Int.cast_ofNat_Int, fitB, hk, hj0 (by omega), hj1 (by omega), Bool.false_and, Bool.true_and]
      · simp (decide := true) (maxSteps := 4000000) only [go_sem, Nat.reduceAdd, Nat.reduceSub, Nat.reduceMul, Nat.reduceDiv, Nat.reduceMod, Nat.reduceLT, Nat.reduceLeDiff, Nat.reduceEqDiff, Nat.reduceBEq, Nat.reduceBNe, Nat.reduceGT, Int.reduceAdd, Int.reduceSub, Int.reduceMul, Int.reduceNeg, Int.reduceLT, Int.reduceLE, Int.reduceEq, Int.reduceNe, Int.reduceBEq, Int.reduceBNe, Int.reduceToNat, Int.reduceGT, Int.reduceGE, ↓reduceIte, decide_true, decide_false, eq_self, Nat.mul_one, Nat.zero_mul, Nat.one_mul, Int.le_refl, Nat.le_refl, Int.cast_ofNat_Int, d1, hk]
        refine hI1 _ ⟨3, by omega, fun _ => hj0 (by omega), fun _ => hj1 (by omega), fun _ => hk⟩ (by simp only; omega) ?_
        simp (decide := true) (maxSteps := 4000000) only [go_sem, Nat.reduceAdd, Nat.reduceSub, Nat.reduceMul, Nat.reduceDiv, Nat.reduceMod, Nat.reduceLT, Nat.reduceLeDiff, Nat.reduceEqDiff, Nat.reduceBEq, Nat.reduceBNe, Nat.reduceGT, Int.reduceAdd, Int.reduceSub, Int.reduceMul, Int.reduceNeg, Int.reduceLT, Int.reduceLE, Int.reduceEq, Int.reduceNe, Int.reduceBEq, Int.reduceBNe, Int.reduceToNat, Int.reduceGT, Int.reduceGE, ↓reduceIte, decide_true, decide_false, eq_self, Nat.mul_one, Nat.zero_mul, Nat.one_mul, Int.le_refl, Nat.le_refl, Int.cast_ofNat_Int, wl3]
    · have hk0 := hj0 (by omega)
      have hk1 := hj1 (by omega)
      have hk2 := hj2 (by omega)
      simp (decide := true) (maxSteps := 4000000) only [go_sem, Nat.reduceAdd, Nat.reduceSub, Nat.reduceMul, Nat.reduceDiv, Nat.reduceMod, Nat.reduceLT, Nat.reduceLeDiff, Nat.reduceEqDiff, Nat.reduceBEq, Nat.reduceBNe, Nat.reduceGT, Int.reduceAdd, Int.reduceSub, Int.reduceMul, Int.reduceNeg, Int.reduceLT, Int.reduceLE, Int.reduceEq, Int.reduceNe, Int.reduceBEq, Int.reduceBNe, Int.reduceToNat, Int.reduceGT, Int.reduceGE, ↓reduceIte, decide_true, decide_false, eq_self, Nat.mul_one, Nat.zero_mul, Nat.one_mul, Int.le_refl, Nat.le_refl, Int.cast_ofNat_Int]
      refine hQ1 _ _ ?_
      have hfb : fitB bound (k0 == c0) (k1 == c1) (k2 == c2) A B C = (List.range A.length).all fun k => inBd bound (sum3 A B C k) := by unfold fitB; rw [hk0, hk1, hk2]; simp
      rw [hfb]
      simp (decide := true) (maxSteps := 4000000) only [go_sem, Nat.reduceAdd, Nat.reduceSub, Nat.reduceMul, Nat.reduceDiv, Nat.reduceMod, Nat.reduceLT, Nat.reduceLeDiff, Nat.reduceEqDiff, Nat.reduceBEq, Nat.reduceBNe, Nat.reduceGT, Int.reduceAdd, Int.reduceSub, Int.reduceMul, Int.reduceNeg, Int.reduceLT, Int.reduceLE, Int.reduceEq, Int.reduceNe, Int.reduceBEq, Int.reduceBNe, Int.reduceToNat, Int.reduceGT, Int.reduceGE, ↓reduceIte, decide_true, decide_false, eq_self, Nat.mul_one, Nat.zero_mul, Nat.one_mul, Int.le_refl, Nat.le_refl, Int.cast_ofNat_Int]
      refine pwpC_loopU (A := { k : Nat // k ≤ A.length ∧ ∀ j, j < k → inBd bound (sum3 A B C j) = true }) [0, 1, 4, 27] (fun k => [(28, .t (.int .i64 k.1))]) (fun _ => []) (fun k => A.length - k.1) ⟨0, by omega, fun j hj => by omega⟩ (by decide) (fun _ => by rfl) ?_ fun Q2 hQ2 ⟨k, hk, hkk⟩ I2 hI2 => ?_
      · simp (decide := true) (maxSteps := 4000000) only [go_sem, Nat.reduceAdd, Nat.reduceSub, Nat.reduceMul, Nat.reduceDiv, Nat.reduceMod, Nat.reduceLT, Nat.reduceLeDiff, Nat.reduceEqDiff, Nat.reduceBEq, Nat.reduceBNe, Nat.reduceGT, Int.reduceAdd, Int.reduceSub, Int.reduceMul, Int.reduceNeg, Int.reduceLT, Int.reduceLE, Int.reduceEq, Int.reduceNe, Int.reduceBEq, Int.reduceBNe, Int.reduceToNat, Int.reduceGT, Int.reduceGE, ↓reduceIte, decide_true, decide_false, eq_self, Nat.mul_one, Nat.zero_mul, Nat.one_mul, Int.le_refl, Nat.le_refl, Int.cast_ofNat_Int]
      · by_cases hlt : (k : Int) < A.length
        · obtain ⟨x, hx⟩ := get_lt (l := A) (k := k) (by omega)
          obtain ⟨y, hy⟩ := get_lt (l := B) (k := k) (by omega)
          obtain ⟨z, hz⟩ := get_lt (l := C) (k := k) (by omega)
          have dx := flat_at Span.cs (n := 2) (fun _ => rfl) hx
          have dy := flat_at Span.cs (n := 2) (fun _ => rfl) hy
          have dz := flat_at Span.cs (n := 2) (fun _ => rfl) hz
          have bx := bd A hA x (List.mem_of_getElem? hx)
          have by' := bd B hB y (List.mem_of_getElem? hy)
          have bz := bd C hC z (List.mem_of_getElem? hz)
          have hc1 : IntKind.i64.wrap (k + 1) = ((k + 1 : Nat) : Int) := by rw [wrap_in (by omega) (by omega)]; omega
          have hs3 : sum3 A B C k = addS (addS x y) z := by unfold sum3; rw [atS_eq hx, atS_eq hy, atS_eq hz]
          have hun : unS [.int .i64 x.lo, .int .i64 x.hi, .int .i64 y.lo, .int .i64 y.hi, .int .i64 z.lo, .int .i64 z.hi] = some [x, y, z] := unS_eq [x, y, z]
          have hbd : [x, y, z].all bdB = true := by
            have b1 : bdB x = true := bdB_iff.2 (by omega)
            have b2 : bdB y = true := bdB_iff.2 (by omega)
            have b3 : bdB z = true := bdB_iff.2 (by omega)
            simp [b1, b2, b3]
          have hsm : sumL [x, y, z] = addS (addS x y) z := by simp [sumL, addS]
          obtain ⟨S, hS⟩ : ∃ S, addS (addS x y) z = S := ⟨_, rfl⟩
          rw [hS] at hsm hs3
          have w0 : IntKind.i64.wrap (0 - bound) = -bound := by rw [wrap_in (by omega) (by omega)]; omega
          by_cases q1 : S.lo < -bound
          · have hf : ((List.range A.length).all fun k => inBd bound (sum3 A B C k)) = false := by
              rw [List.all_eq_false]
              refine ⟨k, List.mem_range.2 (by omega), ?_⟩
              rw [hs3]; unfold inBd; simp; intro; omega
            simp (decide := true) (maxSteps := 4000000) only [go_sem, Nat.reduceAdd, Nat.reduceSub, Nat.reduceMul, Nat.reduceDiv, Nat.reduceMod, Nat.reduceLT, Nat.reduceLeDiff, Nat.reduceEqDiff, Nat.reduceBEq, Nat.reduceBNe, Nat.reduceGT, Int.reduceAdd, Int.reduceSub, Int.reduceMul, Int.reduceNeg, Int.reduceLT, Int.reduceLE, Int.reduceEq, Int.reduceNe, Int.reduceBEq, Int.reduceBNe, Int.reduceToNat, Int.reduceGT, Int.reduceGE, ↓reduceIte, decide_true, decide_false, eq_self, Nat.mul_one, Nat.zero_mul, Nat.one_mul, Int.le_refl, Nat.le_refl, Int.cast_ofNat_Int, hlt, dx, dy, dz, Span.cs, Span.t, hBl, hCl, Int.toNat_natCast, hun, hbd, hsm, w0, q1]
            refine hQ2 _ _ ?_
            simp (decide := true) (maxSteps := 4000000) only [go_sem, Nat.reduceAdd, Nat.reduceSub, Nat.reduceMul, Nat.reduceDiv, Nat.reduceMod, Nat.reduceLT, Nat.reduceLeDiff, Nat.reduceEqDiff, Nat.reduceBEq, Nat.reduceBNe, Nat.reduceGT, Int.reduceAdd, Int.reduceSub, Int.reduceMul, Int.reduceNeg, Int.reduceLT, Int.reduceLE, Int.reduceEq, Int.reduceNe, Int.reduceBEq, Int.reduceBNe, Int.reduceToNat, Int.reduceGT, Int.reduceGE, ↓reduceIte, decide_true, decide_false, eq_self, Nat.mul_one, Nat.zero_mul, Nat.one_mul, Int.le_refl, Nat.le_refl, Int.cast_ofNat_Int, hf]
          · by_cases q2 : S.hi > bound
            · have hf : ((List.range A.length).all fun k => inBd bound (sum3 A B C k)) = false := by
                rw [List.all_eq_false]
                refine ⟨k, List.mem_range.2 (by omega), ?_⟩
                rw [hs3]; unfold inBd; simp; intro; omega
              simp (decide := true) (maxSteps := 4000000) only [go_sem, Nat.reduceAdd, Nat.reduceSub, Nat.reduceMul, Nat.reduceDiv, Nat.reduceMod, Nat.reduceLT, Nat.reduceLeDiff, Nat.reduceEqDiff, Nat.reduceBEq, Nat.reduceBNe, Nat.reduceGT, Int.reduceAdd, Int.reduceSub, Int.reduceMul, Int.reduceNeg, Int.reduceLT, Int.reduceLE, Int.reduceEq, Int.reduceNe, Int.reduceBEq, Int.reduceBNe, Int.reduceToNat, Int.reduceGT, Int.reduceGE, ↓reduceIte, decide_true, decide_false, eq_self, Nat.mul_one, Nat.zero_mul, Nat.one_mul, Int.le_refl, Nat.le_refl, Int.cast_ofNat_Int, hlt, dx, dy, dz, Span.cs, Span.t, hBl, hCl, Int.toNat_natCast, hun, hbd, hsm, w0, q1, q2]
              refine hQ2 _ _ ?_
              simp (decide := true) (maxSteps := 4000000) only [go_sem, Nat.reduceAdd, Nat.reduceSub, Nat.reduceMul, Nat.reduceDiv, Nat.reduceMod, Nat.reduceLT, Nat.reduceLeDiff, Nat.reduceEqDiff, Nat.reduceBEq, Nat.reduceBNe, Nat.reduceGT, Int.reduceAdd, Int.reduceSub, Int.reduceMul, Int.reduceNeg, Int.reduceLT, Int.reduceLE, Int.reduceEq, Int.reduceNe, Int.reduceBEq, Int.reduceBNe, Int.reduceToNat, Int.reduceGT, Int.reduceGE, ↓reduceIte, decide_true, decide_false, eq_self, Nat.mul_one, Nat.zero_mul, Nat.one_mul, Int.le_refl, Nat.le_refl, Int.cast_ofNat_Int, hf]
            · simp (decide := true) (maxSteps := 4000000) only [go_sem, Nat.reduceAdd, Nat.reduceSub, Nat.reduceMul, Nat.reduceDiv, Nat.reduceMod, Nat.reduceLT, Nat.reduceLeDiff, Nat.reduceEqDiff, Nat.reduceBEq, Nat.reduceBNe, Nat.reduceGT, Int.reduceAdd, Int.reduceSub, Int.reduceMul, Int.reduceNeg, Int.reduceLT, Int.reduceLE, Int.reduceEq, Int.reduceNe, Int.reduceBEq, Int.reduceBNe, Int.reduceToNat, Int.reduceGT, Int.reduceGE, ↓reduceIte, decide_true, decide_false, eq_self, Nat.mul_one, Nat.zero_mul, Nat.one_mul, Int.le_refl, Nat.le_refl, Int.cast_ofNat_Int, hlt, dx, dy, dz, Span.cs, Span.t, hBl, hCl, Int.toNat_natCast, hun, hbd, hsm, w0, q1, q2]
              refine hI2 _ ⟨k + 1, by omega, fun j hj => ?_⟩ (by simp only; omega) ?_
              · by_cases e : j = k
                · subst e; rw [hs3]; unfold inBd; simp; omega
                · exact hkk j (by omega)
              · simp (decide := true) (maxSteps := 4000000) only [go_sem, Nat.reduceAdd, Nat.reduceSub, Nat.reduceMul, Nat.reduceDiv, Nat.reduceMod, Nat.reduceLT, Nat.reduceLeDiff, Nat.reduceEqDiff, Nat.reduceBEq, Nat.reduceBNe, Nat.reduceGT, Int.reduceAdd, Int.reduceSub, Int.reduceMul, Int.reduceNeg, Int.reduceLT, Int.reduceLE, Int.reduceEq, Int.reduceNe, Int.reduceBEq, Int.reduceBNe, Int.reduceToNat, Int.reduceGT, Int.reduceGE, ↓reduceIte, decide_true, decide_false, eq_self, Nat.mul_one, Nat.zero_mul, Nat.one_mul, Int.le_refl, Nat.le_refl, Int.cast_ofNat_Int, hc1, hBl, hCl]
        · have hke : k = A.length := by omega
          have ht : ((List.range A.length).all fun k => inBd bound (sum3 A B C k)) = true := List.all_eq_true.2 fun j hj => hkk j (by rw [hke]; exact List.mem_range.1 hj)
          subst hke
          simp (decide := true) (maxSteps := 4000000) only [go_sem, Nat.reduceAdd, Nat.reduceSub, Nat.reduceMul, Nat.reduceDiv, Nat.reduceMod, Nat.reduceLT, Nat.reduceLeDiff, Nat.reduceEqDiff, Nat.reduceBEq, Nat.reduceBNe, Nat.reduceGT, Int.reduceAdd, Int.reduceSub, Int.reduceMul, Int.reduceNeg, Int.reduceLT, Int.reduceLE, Int.reduceEq, Int.reduceNe, Int.reduceBEq, Int.reduceBNe, Int.reduceToNat, Int.reduceGT, Int.reduceGE, ↓reduceIte, decide_true, decide_false, eq_self, Nat.mul_one, Nat.zero_mul, Nat.one_mul, Int.le_refl, Nat.le_refl, Int.cast_ofNat_Int, hlt]
          refine hQ2 _ _ ?_
          simp (decide := true) (maxSteps := 4000000) only [go_sem, Nat.reduceAdd, Nat.reduceSub, Nat.reduceMul, Nat.reduceDiv, Nat.reduceMod, Nat.reduceLT, Nat.reduceLeDiff, Nat.reduceEqDiff, Nat.reduceBEq, Nat.reduceBNe, Nat.reduceGT, Int.reduceAdd, Int.reduceSub, Int.reduceMul, Int.reduceNeg, Int.reduceLT, Int.reduceLE, Int.reduceEq, Int.reduceNe, Int.reduceBEq, Int.reduceBNe, Int.reduceToNat, Int.reduceGT, Int.reduceGE, ↓reduceIte, decide_true, decide_false, eq_self, Nat.mul_one, Nat.zero_mul, Nat.one_mul, Int.le_refl, Nat.le_refl, Int.cast_ofNat_Int, ht]
theorem sFit_c' (bound k0 k1 k2 p0 p1 p2 c0 c1 c2 : Int) (A B C : List Span) (f0 f1 f2 f : Bool) (hb : 0 ≤ bound ∧ bound ≤ 5000) (hn : 1 ≤ A.length ∧ A.length ≤ 12) (hA : tlAll A A.length = true) (hB : tlAll B A.length = true) (hC : tlAll C A.length = true) :
    PCalls Try.prog 86 [.int .i64 bound, .sl [.int .i64 k0, .int .i64 p0, .sl (A.flatMap Span.cs) A.length f0, .fn 85 [] [.cptr [.int .i64 c0]], .int .i64 k1, .int .i64 p1, .sl (B.flatMap Span.cs) A.length f1, .fn 85 [] [.cptr [.int .i64 c1]],
      .int .i64 k2, .int .i64 p2, .sl (C.flatMap Span.cs) A.length f2, .fn 85 [] [.cptr [.int .i64 c2]]] 3 f] (.bool (fitB bound (k0 == c0) (k1 == c1) (k2 == c2) A B C)) := by
  have := sFit_c bound k0 k1 k2 p0 p1 p2 c0 c1 c2 A B C f0 f1 f2 f hb hn hA hB hC
  have eB : B.length = A.length := by unfold tlAll at hB; simp at hB; exact hB.1
  have eC : C.length = A.length := by unfold tlAll at hC; simp at hC; exact hC.1
  rw [eB, eC] at this
  exact this
noncomputable def sxFit : List TV → Option TV
  | [.int .i64 bound, .sl [.int .i64 k0, .int .i64 p0, .sl us na f0, .fn F0 [] [.cptr [.int .i64 c0]], .int .i64 k1, .int .i64 p1, .sl vs nb f1, .fn F1 [] [.cptr [.int .i64 c1]], .int .i64 k2, .int .i64 p2, .sl ws nc f2, .fn F2 [] [.cptr [.int .i64 c2]]] 3 f] => match unS us, unS vs, unS ws with
    | some A, some B, some C => if (F0 = 85 ∧ F1 = 85 ∧ F2 = 85) ∧ (na = A.length ∧ nb = A.length ∧ nc = A.length) ∧ (0 ≤ bound ∧ bound ≤ 5000) ∧ (1 ≤ A.length ∧ A.length ≤ 12) ∧ tlAll A A.length = true ∧ tlAll B A.length = true ∧ tlAll C A.length = true then
        some (.bool (fitB bound (k0 == c0) (k1 == c1) (k2 == c2) A B C)) else none
    | _, _, _ => none
  | _ => none
theorem sxFit_ok : ∀ xs r, sxFit xs = some r → PCalls Try.prog 86 xs r := by
  intro xs r h
  unfold sxFit at h
  split at h
  · split at h
    · rename_i A B C hA hB hC
      split at h
      · rename_i hc
        cases h
        obtain ⟨⟨rfl, rfl, rfl⟩, ⟨rfl, rfl, rfl⟩, hb, hn, h1, h2, h3⟩ := hc
        rw [unS_some hA, unS_some hB, unS_some hC]
        exact sFit_c' _ _ _ _ _ _ _ _ _ _ A B C _ _ _ _ hb hn h1 h2 h3
      · cases h
    · cases h
  · cases h
attribute [go_sem] sxFit
noncomputable def sxIsStock : List TV → Option TV
  | [s] => match rowL unP s with
    | some l => if l.length ≤ 9000000000000 ∧ l.all decP = true then some (.bool (stockB l)) else none
    | none => none
  | _ => none
theorem sxIsStock_ok : ∀ xs r, sxIsStock xs = some r → PCalls Try.prog 83 xs r := by
  intro xs r h
  unfold sxIsStock at h
  split at h
  · split at h
    · rename_i l hl
      have hl := rowL_some (un := unP) (by first | rfl | exact unP_nil) (@unP_some) hl
      split at h
      · rename_i hc; cases h; exact sIsStock_c hl hc.1 hc.2
      · cases h
    · cases h
  · cases h
attribute [go_sem] sxIsStock
end Go.Proofs.Ytjmkccckohcfkaa

/- Part Ss. -/
namespace Go.Os
open Go Go.Pm Go.Oc Go.Oh
structure AS where
  parts : Option (Nat × Nat × Nat)
  price : Int
def partsT : Option (Nat × Nat × Nat) → TV
  | none => .nilSl
  | some (a, b, c) => .sl [.int .i64 a, .int .i64 b, .int .i64 c] 3 true
noncomputable def prc (l : List Pt) (i : Nat) : Int := match l[i]? with | some x => x.p | none => 0
noncomputable def knd (l : List Pt) (i : Nat) : Int := match l[i]? with | some x => x.k | none => 0
noncomputable def ers (l : List Pt) (i : Nat) : List Span := match l[i]? with | some x => errs x | none => []
noncomputable def cost3 (l : List Pt) (a b c : Nat) : Int := prc l a + prc l b + prc l c
noncomputable def fit3 (bound : Int) (l : List Pt) (a b c : Nat) : Bool := fitB bound (knd l a == 0) (knd l b == 1) (knd l c == 2) (ers l a) (ers l b) (ers l c)
noncomputable def asStep (bound : Int) (l : List Pt) (a b : Nat) (st : AS) (c : Nat) : AS :=
  if (st.parts.isNone || decide (cost3 l a b c < st.price)) && fit3 bound l a b c then ⟨some (a, b, c), cost3 l a b c⟩ else st
noncomputable def asC (bound : Int) (l : List Pt) (a b : Nat) (st : AS) (k : Nat) : AS := (List.range k).foldl (asStep bound l a b) st
noncomputable def asB (bound : Int) (l : List Pt) (a : Nat) (st : AS) (k : Nat) : AS := (List.range k).foldl (fun st b => asC bound l a b st l.length) st
noncomputable def asA (bound : Int) (l : List Pt) (k : Nat) : AS := (List.range k).foldl (fun st a => asB bound l a st l.length) ⟨none, 0⟩
theorem asC_succ (bound : Int) (l : List Pt) (a b : Nat) (st : AS) (k : Nat) : asC bound l a b st (k + 1) = asStep bound l a b (asC bound l a b st k) k := by unfold asC; rw [List.range_succ, List.foldl_append]; rfl
theorem asB_succ (bound : Int) (l : List Pt) (a : Nat) (st : AS) (k : Nat) : asB bound l a st (k + 1) = asC bound l a k (asB bound l a st k) l.length := by unfold asB; rw [List.range_succ, List.foldl_append]; rfl
theorem asA_succ (bound : Int) (l : List Pt) (k : Nat) : asA bound l (k + 1) = asB bound l k (asA bound l k) l.length := by unfold asA; rw [List.range_succ, List.foldl_append]; rfl
/-- What Assemble returns. -/
noncomputable def asmP (l : List Pt) (bound : Int) : TV × Int × Int :=
  if stockB l && inB bound 0 5000 then (if (asA bound l l.length).parts.isNone then (.nilSl, 0, 4) else (partsT (asA bound l l.length).parts, (asA bound l l.length).price, 0)) else (.nilSl, 0, 55)
/-- A part of a stock that is one. -/
theorem stock_at {l : List Pt} (h : stockB l = true) (hd : l.all decP = true) {i : Nat} {x : Pt} (hx : l[i]? = some x) :
    (0 ≤ x.k ∧ x.k ≤ 2) ∧ (0 ≤ x.p ∧ x.p ≤ 1000) ∧ (2 ≤ (errs x).length ∧ (errs x).length ≤ 12) ∧ tlAll (errs x) (firstN l) = true ∧ ∃ f, x.s = .sl ((errs x).flatMap Span.cs) (errs x).length f := by
  unfold stockB at h
  rw [Bool.and_eq_true] at h
  have h2 := List.all_eq_true.1 h.2 x (List.mem_of_getElem? hx)
  unfold ptB at h2
  simp only [Bool.and_eq_true, inB_iff, decide_eq_true_eq] at h2
  obtain ⟨h3, h4, h5, h6, h7⟩ := h2
  obtain ⟨hr, _⟩ := decP_row (List.all_eq_true.1 hd x (List.mem_of_getElem? hx))
  refine ⟨h3, h4, by omega, by unfold tlAll; rw [h6, h7]; simp, hr.ne (by omega)⟩
end Go.Os
namespace Go.Proofs.Ytjmkccckohcfkaa
open Go.RowKit Go.Pm Go.Oc Go.Oh Go.Os
set_option maxRecDepth 100000
set_option linter.unusedVariables false
set_option maxHeartbeats 8000000

noncomputable def spTa : Pm.Spec := { ((((spSa.one 83 sxIsStock).one 84 sxOf).one 86 sxFit)) with fz := fun _ => true }
@[go_sem] theorem spTa_p (f : FuncId) (xs : List TV) : spTa.p f xs = Pm.Spec.p ({ ((((spSa.one 83 sxIsStock).one 84 sxOf).one 86 sxFit)) with fz := fun _ => true }) f xs := rfl
@[go_sem] theorem spTa_h (f : FuncId) (ps : List PV) (hl : List PO) : spTa.h f ps hl = Pm.Spec.h ({ ((((spSa.one 83 sxIsStock).one 84 sxOf).one 86 sxFit)) with fz := fun _ => true }) f ps hl := rfl
@[go_sem] theorem spTa_fz (f : FuncId) : spTa.fz f = Pm.Spec.fz ({ ((((spSa.one 83 sxIsStock).one 84 sxOf).one 86 sxFit)) with fz := fun _ => true }) f := rfl
@[go_sem] theorem spTa_fr (f : FuncId) : spTa.fr f = Pm.Spec.fr ({ ((((spSa.one 83 sxIsStock).one 84 sxOf).one 86 sxFit)) with fz := fun _ => true }) f := rfl
@[go_sem] theorem spTa_mu (t : TypeId) : spTa.mu t = Pm.Spec.mu ({ ((((spSa.one 83 sxIsStock).one 84 sxOf).one 86 sxFit)) with fz := fun _ => true }) t := rfl
@[go_sem] theorem spTa_nf (t : TypeId) : spTa.nf t = Pm.Spec.nf ({ ((((spSa.one 83 sxIsStock).one 84 sxOf).one 86 sxFit)) with fz := fun _ => true }) t := rfl
theorem spTa_ok : SpecOk Try.prog spTa := ⟨(Spec.one_ok sxFit_ok (Spec.one_ok sxOf_ok (Spec.one_ok sxIsStock_ok spSa_ok))).1, (Spec.one_ok sxFit_ok (Spec.one_ok sxOf_ok (Spec.one_ok sxIsStock_ok spSa_ok))).2⟩
theorem sAssemble_c {l : List Pt} {s : TV} (hs : IsRow Pt.cs s l) (ll : l.length ≤ 9000000000000) (hd : l.all decP = true) (bound : Int) : PCalls Try.prog 30 [s, .int .i64 bound] (.tup [(asmP l bound).1, .int .i64 (asmP l bound).2.1, .int .i64 (asmP l bound).2.2]) := by
  have rs := rowP_is hs
  unfold rowL at rs
  simp only [unP_nil] at rs
  refine pcalls_by Try.mixes spTa_ok (fn := Try.f30) Try.func30 rfl (by kernel_rfl) (by show 2 ≤ _; decide) ?_
  unfold asmP
  cases hst : stockB l with
  | false => rcases hs with ⟨rfl, rfl⟩ | ⟨g, rfl⟩ <;> simp (decide := true) (maxSteps := 4000000) only [go_sem, Nat.reduceAdd, Nat.reduceSub, Nat.reduceMul, Nat.reduceDiv, Nat.reduceMod, Nat.reduceLT, Nat.reduceLeDiff, Nat.reduceEqDiff, Nat.reduceBEq, Nat.reduceBNe, Nat.reduceGT, Int.reduceAdd, Int.reduceSub, Int.reduceMul, Int.reduceNeg, Int.reduceLT, Int.reduceLE, Int.reduceEq, Int.reduceNe, Int.reduceBEq, Int.reduceBNe, Int.reduceToNat, Int.reduceGT, Int.reduceGE, ↓reduceIte, decide_true, decide_false, eq_self, Nat.mul_one, Nat.zero_mul, Nat.one_mul, Int.le_refl, Nat.le_refl, Int.cast_ofNat_Int, Try.f30, unP_eq, unP_nil, ll, hd, hst, Bool.false_and]
  | true =>
    have h3 : 3 ≤ l.length ∧ l.length ≤ 12 := by
      unfold stockB at hst
      rw [Bool.and_eq_true, inB_iff] at hst
      omega
    obtain ⟨g, rfl⟩ := hs.ne (by omega)
    cases hbd : inB bound 0 5000 with
    | false => simp (decide := true) (maxSteps := 4000000) only [go_sem, Nat.reduceAdd, Nat.reduceSub, Nat.reduceMul, Nat.reduceDiv, Nat.reduceMod, Nat.reduceLT, Nat.reduceLeDiff, Nat.reduceEqDiff, Nat.reduceBEq, Nat.reduceBNe, Nat.reduceGT, Int.reduceAdd, Int.reduceSub, Int.reduceMul, Int.reduceNeg, Int.reduceLT, Int.reduceLE, Int.reduceEq, Int.reduceNe, Int.reduceBEq, Int.reduceBNe, Int.reduceToNat, Int.reduceGT, Int.reduceGE, ↓reduceIte, decide_true, decide_false, eq_self, Nat.mul_one, Nat.zero_mul, Nat.one_mul, Int.le_refl, Nat.le_refl, Int.cast_ofNat_Int, Try.f30, unP_eq, ll, hd, hst, hbd, Bool.and_false]
    | true =>
      have hb := inB_iff.1 hbd
      simp (decide := true) (maxSteps := 4000000) only [go_sem, Nat.reduceAdd, Nat.reduceSub, Nat.reduceMul, Nat.reduceDiv, Nat.reduceMod, Nat.reduceLT, Nat.reduceLeDiff, Nat.reduceEqDiff, Nat.reduceBEq, Nat.reduceBNe, Nat.reduceGT, Int.reduceAdd, Int.reduceSub, Int.reduceMul, Int.reduceNeg, Int.reduceLT, Int.reduceLE, Int.reduceEq, Int.reduceNe, Int.reduceBEq, Int.reduceBNe, Int.reduceToNat, Int.reduceGT, Int.reduceGE, ↓reduceIte, decide_true, decide_false, eq_self, Nat.mul_one, Nat.zero_mul, Nat.one_mul, Int.le_refl, Nat.le_refl, Int.cast_ofNat_Int, Try.f30, unP_eq, ll, hd, hst, hbd, Bool.and_self]
      refine pwpC_loopU (A := { k : Nat // k ≤ l.length }) [1, 2, 7, 23] (fun k => [(24, .t (.int .i64 k.1)), (4, .t (partsT (asA bound l k.1).parts)), (5, .t (.int .i64 (asA bound l k.1).price))]) (fun _ => []) (fun k => l.length - k.1) ⟨0, by omega⟩ (by decide) (fun _ => by rfl) ?_ fun Q1 hQ1 ⟨a, ha⟩ I1 hI1 => ?_
      · simp (decide := true) (maxSteps := 4000000) only [go_sem, Nat.reduceAdd, Nat.reduceSub, Nat.reduceMul, Nat.reduceDiv, Nat.reduceMod, Nat.reduceLT, Nat.reduceLeDiff, Nat.reduceEqDiff, Nat.reduceBEq, Nat.reduceBNe, Nat.reduceGT, Int.reduceAdd, Int.reduceSub, Int.reduceMul, Int.reduceNeg, Int.reduceLT, Int.reduceLE, Int.reduceEq, Int.reduceNe, Int.reduceBEq, Int.reduceBNe, Int.reduceToNat, Int.reduceGT, Int.reduceGE, ↓reduceIte, decide_true, decide_false, eq_self, Nat.mul_one, Nat.zero_mul, Nat.one_mul, Int.le_refl, Nat.le_refl, Int.cast_ofNat_Int, asA, List.range_zero, List.foldl_nil, partsT]
      · by_cases hlt : (a : Int) < l.length
        · have hca : IntKind.i64.wrap (a + 1) = ((a + 1 : Nat) : Int) := by rw [wrap_in (by omega) (by omega)]; omega
          have hsa := asA_succ bound l a
          obtain ⟨SA, hSA⟩ : ∃ SA, asA bound l a = SA := ⟨_, rfl⟩
          rw [hSA] at hsa
          obtain ⟨pa, hpa⟩ := get_lt (l := l) (k := a) (by omega)
          simp (decide := true) (maxSteps := 4000000) only [go_sem, Nat.reduceAdd, Nat.reduceSub, Nat.reduceMul, Nat.reduceDiv, Nat.reduceMod, Nat.reduceLT, Nat.reduceLeDiff, Nat.reduceEqDiff, Nat.reduceBEq, Nat.reduceBNe, Nat.reduceGT, Int.reduceAdd, Int.reduceSub, Int.reduceMul, Int.reduceNeg, Int.reduceLT, Int.reduceLE, Int.reduceEq, Int.reduceNe, Int.reduceBEq, Int.reduceBNe, Int.reduceToNat, Int.reduceGT, Int.reduceGE, ↓reduceIte, decide_true, decide_false, eq_self, Nat.mul_one, Nat.zero_mul, Nat.one_mul, Int.le_refl, Nat.le_refl, Int.cast_ofNat_Int, hlt, hSA]
          refine pwpC_loopU (A := { k : Nat // k ≤ l.length }) [1, 2, 7, 23, 24, 8, 28] (fun k => [(29, .t (.int .i64 k.1)), (4, .t (partsT (asB bound l a SA k.1).parts)), (5, .t (.int .i64 (asB bound l a SA k.1).price))]) (fun _ => []) (fun k => l.length - k.1) ⟨0, by omega⟩ (by decide) (fun _ => by rfl) ?_ fun Q2 hQ2 ⟨b, hb'⟩ I2 hI2 => ?_
          · simp (decide := true) (maxSteps := 4000000) only [go_sem, Nat.reduceAdd, Nat.reduceSub, Nat.reduceMul, Nat.reduceDiv, Nat.reduceMod, Nat.reduceLT, Nat.reduceLeDiff, Nat.reduceEqDiff, Nat.reduceBEq, Nat.reduceBNe, Nat.reduceGT, Int.reduceAdd, Int.reduceSub, Int.reduceMul, Int.reduceNeg, Int.reduceLT, Int.reduceLE, Int.reduceEq, Int.reduceNe, Int.reduceBEq, Int.reduceBNe, Int.reduceToNat, Int.reduceGT, Int.reduceGE, ↓reduceIte, decide_true, decide_false, eq_self, Nat.mul_one, Nat.zero_mul, Nat.one_mul, Int.le_refl, Nat.le_refl, Int.cast_ofNat_Int, asB, List.range_zero, List.foldl_nil]
          · by_cases hlt2 : (b : Int) < l.length
            · have hcb : IntKind.i64.wrap (b + 1) = ((b + 1 : Nat) : Int) := by rw [wrap_in (by omega) (by omega)]; omega
              have hsb := asB_succ bound l a SA b
              obtain ⟨SB, hSB⟩ : ∃ SB, asB bound l a SA b = SB := ⟨_, rfl⟩
              rw [hSB] at hsb
              obtain ⟨pb, hpb⟩ := get_lt (l := l) (k := b) (by omega)
              simp (decide := true) (maxSteps := 4000000) only [go_sem, Nat.reduceAdd, Nat.reduceSub, Nat.reduceMul, Nat.reduceDiv, Nat.reduceMod, Nat.reduceLT, Nat.reduceLeDiff, Nat.reduceEqDiff, Nat.reduceBEq, Nat.reduceBNe, Nat.reduceGT, Int.reduceAdd, Int.reduceSub, Int.reduceMul, Int.reduceNeg, Int.reduceLT, Int.reduceLE, Int.reduceEq, Int.reduceNe, Int.reduceBEq, Int.reduceBNe, Int.reduceToNat, Int.reduceGT, Int.reduceGE, ↓reduceIte, decide_true, decide_false, eq_self, Nat.mul_one, Nat.zero_mul, Nat.one_mul, Int.le_refl, Nat.le_refl, Int.cast_ofNat_Int, hlt2, hSB]
              refine pwpC_loopU (A := { k : Nat // k ≤ l.length }) [1, 2, 7, 23, 24, 8, 28, 29, 9, 33] (fun k => [(34, .t (.int .i64 k.1)), (4, .t (partsT (asC bound l a b SB k.1).parts)), (5, .t (.int .i64 (asC bound l a b SB k.1).price))]) (fun _ => []) (fun k => l.length - k.1) ⟨0, by omega⟩ (by decide) (fun _ => by rfl) ?_ fun Q3 hQ3 ⟨c, hc'⟩ I3 hI3 => ?_
              · simp (decide := true) (maxSteps := 4000000) only [go_sem, Nat.reduceAdd, Nat.reduceSub, Nat.reduceMul, Nat.reduceDiv, Nat.reduceMod, Nat.reduceLT, Nat.reduceLeDiff, Nat.reduceEqDiff, Nat.reduceBEq, Nat.reduceBNe, Nat.reduceGT, Int.reduceAdd, Int.reduceSub, Int.reduceMul, Int.reduceNeg, Int.reduceLT, Int.reduceLE, Int.reduceEq, Int.reduceNe, Int.reduceBEq, Int.reduceBNe, Int.reduceToNat, Int.reduceGT, Int.reduceGE, ↓reduceIte, decide_true, decide_false, eq_self, Nat.mul_one, Nat.zero_mul, Nat.one_mul, Int.le_refl, Nat.le_refl, Int.cast_ofNat_Int, asC, List.range_zero, List.foldl_nil]
              · by_cases hlt3 : (c : Int) < l.length
                · have hcc : IntKind.i64.wrap (c + 1) = ((c + 1 : Nat) : Int) := by rw [wrap_in (by omega) (by omega)]; omega
                  have hsc := asC_succ bound l a b SB c
                  obtain ⟨pc, hpc⟩ := get_lt (l := l) (k := c) (by omega)
                  have da := flat_at Pt.cs (n := 3) (fun _ => rfl) hpa
                  have db := flat_at Pt.cs (n := 3) (fun _ => rfl) hpb
                  have dc := flat_at Pt.cs (n := 3) (fun _ => rfl) hpc
                  obtain ⟨ga1, ga2, ga3, ga4, fa, ga5⟩ := stock_at hst hd hpa
                  obtain ⟨gb1, gb2, gb3, gb4, fb, gb5⟩ := stock_at hst hd hpb
                  obtain ⟨gc1, gc2, gc3, gc4, fc, gc5⟩ := stock_at hst hd hpc
                  have hcost : cost3 l a b c = pa.p + pb.p + pc.p := by unfold cost3 prc; rw [hpa, hpb, hpc]
                  have hfit : fit3 bound l a b c = fitB bound (pa.k == 0) (pb.k == 1) (pc.k == 2) (errs pa) (errs pb) (errs pc) := by unfold fit3 knd ers; rw [hpa, hpb, hpc]
                  have ea : (errs pa).length = firstN l := by unfold tlAll at ga4; simp at ga4; exact ga4.1
                  have eb : (errs pb).length = firstN l := by unfold tlAll at gb4; simp at gb4; exact gb4.1
                  have ec : (errs pc).length = firstN l := by unfold tlAll at gc4; simp at gc4; exact gc4.1
                  obtain ⟨F, hF⟩ : ∃ F, firstN l = F := ⟨_, rfl⟩
                  rw [hF] at ga4 gb4 gc4 ea eb ec
                  have w1 : IntKind.i64.wrap (pa.p + pb.p) = pa.p + pb.p := wrap_in (by omega) (by omega)
                  have w2 : IntKind.i64.wrap (pa.p + pb.p + pc.p) = cost3 l a b c := by rw [hcost]; exact wrap_in (by omega) (by omega)
                  have hF12 : 1 ≤ F ∧ F ≤ 12 := by omega
                  obtain ⟨CO, hCO⟩ : ∃ CO, cost3 l a b c = CO := ⟨_, rfl⟩
                  obtain ⟨FI, hFI⟩ : ∃ FI, fit3 bound l a b c = FI := ⟨_, rfl⟩
                  rw [hFI] at hfit
                  rw [hCO] at w2
                  obtain ⟨ST, hST⟩ : ∃ ST, asC bound l a b SB c = ST := ⟨_, rfl⟩
                  rw [hST] at hsc
                  unfold asStep at hsc
                  rw [hCO, hFI] at hsc
                  obtain ⟨P, pr⟩ := ST
                  cases P with
                  | none =>
                    simp (decide := true) (maxSteps := 4000000) only [go_sem, Nat.reduceAdd, Nat.reduceSub, Nat.reduceMul, Nat.reduceDiv, Nat.reduceMod, Nat.reduceLT, Nat.reduceLeDiff, Nat.reduceEqDiff, Nat.reduceBEq, Nat.reduceBNe, Nat.reduceGT, Int.reduceAdd, Int.reduceSub, Int.reduceMul, Int.reduceNeg, Int.reduceLT, Int.reduceLE, Int.reduceEq, Int.reduceNe, Int.reduceBEq, Int.reduceBNe, Int.reduceToNat, Int.reduceGT, Int.reduceGE, ↓reduceIte, decide_true, decide_false, eq_self, Nat.mul_one, Nat.zero_mul, Nat.one_mul, Int.le_refl, Nat.le_refl, Int.cast_ofNat_Int, hlt, hlt2, hlt3, hST, partsT, hpa, hpb, hpc, unP_eq, unS_eq, ga5, gb5, gc5, ea, eb, ec, da, db, dc, Pt.cs, Int.toNat_natCast, w1, w2, hb, hF12, ga4, gb4, gc4, ← hfit]
                    cases FI with
                    | false =>
                      simp (decide := true) (maxSteps := 4000000) only [go_sem, Nat.reduceAdd, Nat.reduceSub, Nat.reduceMul, Nat.reduceDiv, Nat.reduceMod, Nat.reduceLT, Nat.reduceLeDiff, Nat.reduceEqDiff, Nat.reduceBEq, Nat.reduceBNe, Nat.reduceGT, Int.reduceAdd, Int.reduceSub, Int.reduceMul, Int.reduceNeg, Int.reduceLT, Int.reduceLE, Int.reduceEq, Int.reduceNe, Int.reduceBEq, Int.reduceBNe, Int.reduceToNat, Int.reduceGT, Int.reduceGE, ↓reduceIte, decide_true, decide_false, eq_self, Nat.mul_one, Nat.zero_mul, Nat.one_mul, Int.le_refl, Nat.le_refl, Int.cast_ofNat_Int]
                      refine hI3 _ ⟨c + 1, by omega⟩ (by simp only; omega) ?_
                      simp (decide := true) (maxSteps := 4000000) only [go_sem, Nat.reduceAdd, Nat.reduceSub, Nat.reduceMul, Nat.reduceDiv, Nat.reduceMod, Nat.reduceLT, Nat.reduceLeDiff, Nat.reduceEqDiff, Nat.reduceBEq, Nat.reduceBNe, Nat.reduceGT, Int.reduceAdd, Int.reduceSub, Int.reduceMul, Int.reduceNeg, Int.reduceLT, Int.reduceLE, Int.reduceEq, Int.reduceNe, Int.reduceBEq, Int.reduceBNe, Int.reduceToNat, Int.reduceGT, Int.reduceGE, ↓reduceIte, decide_true, decide_false, eq_self, Nat.mul_one, Nat.zero_mul, Nat.one_mul, Int.le_refl, Nat.le_refl, Int.cast_ofNat_Int, hcc, hsc, Option.isNone_none, Bool.true_or, Bool.true_and, Bool.and_false, partsT]
                    | true =>
                      simp (decide := true) (maxSteps := 4000000) only [go_sem, Nat.reduceAdd, Nat.reduceSub, Nat.reduceMul, Nat.reduceDiv, Nat.reduceMod, Nat.reduceLT, Nat.reduceLeDiff, Nat.reduceEqDiff, Nat.reduceBEq, Nat.reduceBNe, Nat.reduceGT, Int.reduceAdd, Int.reduceSub, Int.reduceMul, Int.reduceNeg, Int.reduceLT, Int.reduceLE, Int.reduceEq, Int.reduceNe, Int.reduceBEq, Int.reduceBNe, Int.reduceToNat, Int.reduceGT, Int.reduceGE, ↓reduceIte, decide_true, decide_false, eq_self, Nat.mul_one, Nat.zero_mul, Nat.one_mul, Int.le_refl, Nat.le_refl, Int.cast_ofNat_Int]
                      refine hI3 _ ⟨c + 1, by omega⟩ (by simp only; omega) ?_
                      simp (decide := true) (maxSteps := 4000000) only [go_sem, Nat.reduceAdd, Nat.reduceSub, Nat.reduceMul, Nat.reduceDiv, Nat.reduceMod, Nat.reduceLT, Nat.reduceLeDiff, Nat.reduceEqDiff, Nat.reduceBEq, Nat.reduceBNe, Nat.reduceGT, Int.reduceAdd, Int.reduceSub, Int.reduceMul, Int.reduceNeg, Int.reduceLT, Int.reduceLE, Int.reduceEq, Int.reduceNe, Int.reduceBEq, Int.reduceBNe, Int.reduceToNat, Int.reduceGT, Int.reduceGE, ↓reduceIte, decide_true, decide_false, eq_self, Nat.mul_one, Nat.zero_mul, Nat.one_mul, Int.le_refl, Nat.le_refl, Int.cast_ofNat_Int, hcc, hsc, Option.isNone_none, Bool.true_or, Bool.true_and, Bool.and_true, partsT]
                  | some P =>
                    obtain ⟨P1, P2, P3⟩ := P
                    simp (decide := true) (maxSteps := 4000000) only [go_sem, Nat.reduceAdd, Nat.reduceSub, Nat.reduceMul, Nat.reduceDiv, Nat.reduceMod, Nat.reduceLT, Nat.reduceLeDiff, Nat.reduceEqDiff, Nat.reduceBEq, Nat.reduceBNe, Nat.reduceGT, Int.reduceAdd, Int.reduceSub, Int.reduceMul, Int.reduceNeg, Int.reduceLT, Int.reduceLE, Int.reduceEq, Int.reduceNe, Int.reduceBEq, Int.reduceBNe, Int.reduceToNat, Int.reduceGT, Int.reduceGE, ↓reduceIte, decide_true, decide_false, eq_self, Nat.mul_one, Nat.zero_mul, Nat.one_mul, Int.le_refl, Nat.le_refl, Int.cast_ofNat_Int, hlt, hlt2, hlt3, hST, partsT, hpa, hpb, hpc, unP_eq, unS_eq, ga5, gb5, gc5, ea, eb, ec, da, db, dc, Pt.cs, Int.toNat_natCast, w1, w2, hb, hF12, ga4, gb4, gc4, ← hfit]
                    by_cases hlt4 : CO < pr
                    · cases FI with
                      | false =>
                        simp (decide := true) (maxSteps := 4000000) only [go_sem, Nat.reduceAdd, Nat.reduceSub, Nat.reduceMul, Nat.reduceDiv, Nat.reduceMod, Nat.reduceLT, Nat.reduceLeDiff, Nat.reduceEqDiff, Nat.reduceBEq, Nat.reduceBNe, Nat.reduceGT, Int.reduceAdd, Int.reduceSub, Int.reduceMul, Int.reduceNeg, Int.reduceLT, Int.reduceLE, Int.reduceEq, Int.reduceNe, Int.reduceBEq, Int.reduceBNe, Int.reduceToNat, Int.reduceGT, Int.reduceGE, ↓reduceIte, decide_true, decide_false, eq_self, Nat.mul_one, Nat.zero_mul, Nat.one_mul, Int.le_refl, Nat.le_refl, Int.cast_ofNat_Int, hlt4, Bool.and_false]
                        refine hI3 _ ⟨c + 1, by omega⟩ (by simp only; omega) ?_
                        simp (decide := true) (maxSteps := 4000000) only [go_sem, Nat.reduceAdd, Nat.reduceSub, Nat.reduceMul, Nat.reduceDiv, Nat.reduceMod, Nat.reduceLT, Nat.reduceLeDiff, Nat.reduceEqDiff, Nat.reduceBEq, Nat.reduceBNe, Nat.reduceGT, Int.reduceAdd, Int.reduceSub, Int.reduceMul, Int.reduceNeg, Int.reduceLT, Int.reduceLE, Int.reduceEq, Int.reduceNe, Int.reduceBEq, Int.reduceBNe, Int.reduceToNat, Int.reduceGT, Int.reduceGE, ↓reduceIte, decide_true, decide_false, eq_self, Nat.mul_one, Nat.zero_mul, Nat.one_mul, Int.le_refl, Nat.le_refl, Int.cast_ofNat_Int, hcc, hsc, Option.isNone_some, Bool.false_or, Bool.and_false, partsT]
                      | true =>
                        simp (decide := true) (maxSteps := 4000000) only [go_sem, Nat.reduceAdd, Nat.reduceSub, Nat.reduceMul, Nat.reduceDiv, Nat.reduceMod, Nat.reduceLT, Nat.reduceLeDiff, Nat.reduceEqDiff, Nat.reduceBEq, Nat.reduceBNe, Nat.reduceGT, Int.reduceAdd, Int.reduceSub, Int.reduceMul, Int.reduceNeg, Int.reduceLT, Int.reduceLE, Int.reduceEq, Int.reduceNe, Int.reduceBEq, Int.reduceBNe, Int.reduceToNat, Int.reduceGT, Int.reduceGE, ↓reduceIte, decide_true, decide_false, eq_self, Nat.mul_one, Nat.zero_mul, Nat.one_mul, Int.le_refl, Nat.le_refl, Int.cast_ofNat_Int, hlt4, Bool.and_true]
                        refine hI3 _ ⟨c + 1, by omega⟩ (by simp only; omega) ?_
                        simp (decide := true) (maxSteps := 4000000) only [go_sem, Nat.reduceAdd, Nat.reduceSub, Nat.reduceMul, Nat.reduceDiv, Nat.reduceMod, Nat.reduceLT, Nat.reduceLeDiff, Nat.reduceEqDiff, Nat.reduceBEq, Nat.reduceBNe, Nat.reduceGT, Int.reduceAdd, Int.reduceSub, Int.reduceMul, Int.reduceNeg, Int.reduceLT, Int.reduceLE, Int.reduceEq, Int.reduceNe, Int.reduceBEq, Int.reduceBNe, Int.reduceToNat, Int.reduceGT, Int.reduceGE, ↓reduceIte, decide_true, decide_false, eq_self, Nat.mul_one, Nat.zero_mul, Nat.one_mul, Int.le_refl, Nat.le_refl, Int.cast_ofNat_Int, hcc, hsc, hlt4, Option.isNone_some, Bool.false_or, Bool.and_true, partsT]
                    · simp (decide := true) (maxSteps := 4000000) only [go_sem, Nat.reduceAdd, Nat.reduceSub, Nat.reduceMul, Nat.reduceDiv, Nat.reduceMod, Nat.reduceLT, Nat.reduceLeDiff, Nat.reduceEqDiff, Nat.reduceBEq, Nat.reduceBNe, Nat.reduceGT, Int.reduceAdd, Int.reduceSub, Int.reduceMul, Int.reduceNeg, Int.reduceLT, Int.reduceLE, Int.reduceEq, Int.reduceNe, Int.reduceBEq, Int.reduceBNe, Int.reduceToNat, Int.reduceGT, Int.reduceGE, ↓reduceIte, decide_true, decide_false, eq_self, Nat.mul_one, Nat.zero_mul, Nat.one_mul, Int.le_refl, Nat.le_refl, Int.cast_ofNat_Int, hlt4, Bool.false_and]
                      refine hI3 _ ⟨c + 1, by omega⟩ (by simp only; omega) ?_
                      simp (decide := true) (maxSteps := 4000000) only [go_sem, Nat.reduceAdd, Nat.reduceSub, Nat.reduceMul, Nat.reduceDiv, Nat.reduceMod, Nat.reduceLT, Nat.reduceLeDiff, Nat.reduceEqDiff, Nat.reduceBEq, Nat.reduceBNe, Nat.reduceGT, Int.reduceAdd, Int.reduceSub, Int.reduceMul, Int.reduceNeg, Int.reduceLT, Int.reduceLE, Int.reduceEq, Int.reduceNe, Int.reduceBEq, Int.reduceBNe, Int.reduceToNat, Int.reduceGT, Int.reduceGE, ↓reduceIte, decide_true, decide_false, eq_self, Nat.mul_one, Nat.zero_mul, Nat.one_mul, Int.le_refl, Nat.le_refl, Int.cast_ofNat_Int, hcc, hsc, hlt4, Option.isNone_some, Bool.false_or, Bool.false_and, partsT]
                · have hke : c = l.length := by omega
                  subst hke
                  simp (decide := true) (maxSteps := 4000000) only [go_sem, Nat.reduceAdd, Nat.reduceSub, Nat.reduceMul, Nat.reduceDiv, Nat.reduceMod, Nat.reduceLT, Nat.reduceLeDiff, Nat.reduceEqDiff, Nat.reduceBEq, Nat.reduceBNe, Nat.reduceGT, Int.reduceAdd, Int.reduceSub, Int.reduceMul, Int.reduceNeg, Int.reduceLT, Int.reduceLE, Int.reduceEq, Int.reduceNe, Int.reduceBEq, Int.reduceBNe, Int.reduceToNat, Int.reduceGT, Int.reduceGE, ↓reduceIte, decide_true, decide_false, eq_self, Nat.mul_one, Nat.zero_mul, Nat.one_mul, Int.le_refl, Nat.le_refl, Int.cast_ofNat_Int, hlt3]
                  refine hQ3 _ _ ?_
                  simp (decide := true) (maxSteps := 4000000) only [go_sem, Nat.reduceAdd, Nat.reduceSub, Nat.reduceMul, Nat.reduceDiv, Nat.reduceMod, Nat.reduceLT, Nat.reduceLeDiff, Nat.reduceEqDiff, Nat.reduceBEq, Nat.reduceBNe, Nat.reduceGT, Int.reduceAdd, Int.reduceSub, Int.reduceMul, Int.reduceNeg, Int.reduceLT, Int.reduceLE, Int.reduceEq, Int.reduceNe, Int.reduceBEq, Int.reduceBNe, Int.reduceToNat, Int.reduceGT, Int.reduceGE, ↓reduceIte, decide_true, decide_false, eq_self, Nat.mul_one, Nat.zero_mul, Nat.one_mul, Int.le_refl, Nat.le_refl, Int.cast_ofNat_Int]
                  refine hI2 _ ⟨b + 1, by omega⟩ (by simp only; omega) ?_
                  simp (decide := true) (maxSteps := 4000000) only [go_sem, Nat.reduceAdd, Nat.reduceSub, Nat.reduceMul, Nat.reduceDiv, Nat.reduceMod, Nat.reduceLT, Nat.reduceLeDiff, Nat.reduceEqDiff, Nat.reduceBEq, Nat.reduceBNe, Nat.reduceGT, Int.reduceAdd, Int.reduceSub, Int.reduceMul, Int.reduceNeg, Int.reduceLT, Int.reduceLE, Int.reduceEq, Int.reduceNe, Int.reduceBEq, Int.reduceBNe, Int.reduceToNat, Int.reduceGT, Int.reduceGE, ↓reduceIte, decide_true, decide_false, eq_self, Nat.mul_one, Nat.zero_mul, Nat.one_mul, Int.le_refl, Nat.le_refl, Int.cast_ofNat_Int, hcb, hsb]
            · have hke : b = l.length := by omega
              subst hke
              simp (decide := true) (maxSteps := 4000000) only [go_sem, Nat.reduceAdd, Nat.reduceSub, Nat.reduceMul, Nat.reduceDiv, Nat.reduceMod, Nat.reduceLT, Nat.reduceLeDiff, Nat.reduceEqDiff, Nat.reduceBEq, Nat.reduceBNe, Nat.reduceGT, Int.reduceAdd, Int.reduceSub, Int.reduceMul, Int.reduceNeg, Int.reduceLT, Int.reduceLE, Int.reduceEq, Int.reduceNe, Int.reduceBEq, Int.reduceBNe, Int.reduceToNat, Int.reduceGT, Int.reduceGE, ↓reduceIte, decide_true, decide_false, eq_self, Nat.mul_one, Nat.zero_mul, Nat.one_mul, Int.le_refl, Nat.le_refl, Int.cast_ofNat_Int, hlt2]
              refine hQ2 _ _ ?_
              simp (decide := true) (maxSteps := 4000000) only [go_sem, Nat.reduceAdd, Nat.reduceSub, Nat.reduceMul, Nat.reduceDiv, Nat.reduceMod, Nat.reduceLT, Nat.reduceLeDiff, Nat.reduceEqDiff, Nat.reduceBEq, Nat.reduceBNe, Nat.reduceGT, Int.reduceAdd, Int.reduceSub, Int.reduceMul, Int.reduceNeg, Int.reduceLT, Int.reduceLE, Int.reduceEq, Int.reduceNe, Int.reduceBEq, Int.reduceBNe, Int.reduceToNat, Int.reduceGT, Int.reduceGE, ↓reduceIte, decide_true, decide_false, eq_self, Nat.mul_one, Nat.zero_mul, Nat.one_mul, Int.le_refl, Nat.le_refl, Int.cast_ofNat_Int]
              refine hI1 _ ⟨a + 1, by omega⟩ (by simp only; omega) ?_
              simp (decide := true) (maxSteps := 4000000) only [go_sem, Nat.reduceAdd, Nat.reduceSub, Nat.reduceMul, Nat.reduceDiv, Nat.reduceMod, Nat.reduceLT, Nat.reduceLeDiff, Nat.reduceEqDiff, Nat.reduceBEq, Nat.reduceBNe, Nat.reduceGT, Int.reduceAdd, Int.reduceSub, Int.reduceMul, Int.reduceNeg, Int.reduceLT, Int.reduceLE, Int.reduceEq, Int.reduceNe, Int.reduceBEq, Int.reduceBNe, Int.reduceToNat, Int.reduceGT, Int.reduceGE, ↓reduceIte, decide_true, decide_false, eq_self, Nat.mul_one, Nat.zero_mul, Nat.one_mul, Int.le_refl, Nat.le_refl, Int.cast_ofNat_Int, hca, hsa]
        · have hke : a = l.length := by omega
          subst hke
          simp (decide := true) (maxSteps := 4000000) only [go_sem, Nat.reduceAdd, Nat.reduceSub, Nat.reduceMul, Nat.reduceDiv, Nat.reduceMod, Nat.reduceLT, Nat.reduceLeDiff, Nat.reduceEqDiff, Nat.reduceBEq, Nat.reduceBNe, Nat.reduceGT, Int.reduceAdd, Int.reduceSub, Int.reduceMul, Int.reduceNeg, Int.reduceLT, Int.reduceLE, Int.reduceEq, Int.reduceNe, Int.reduceBEq, Int.reduceBNe, Int.reduceToNat, Int.reduceGT, Int.reduceGE, ↓reduceIte, decide_true, decide_false, eq_self, Nat.mul_one, Nat.zero_mul, Nat.one_mul, Int.le_refl, Nat.le_refl, Int.cast_ofNat_Int, hlt]
          refine hQ1 _ _ ?_
          obtain ⟨ST, hST⟩ : ∃ ST, asA bound l l.length = ST := ⟨_, rfl⟩
          rw [hST]
          obtain ⟨P, pr⟩ := ST
          cases P with
          | none => simp (decide := true) (maxSteps := 4000000) only [go_sem, Nat.reduceAdd, Nat.reduceSub, Nat.reduceMul, Nat.reduceDiv, Nat.reduceMod, Nat.reduceLT, Nat.reduceLeDiff, Nat.reduceEqDiff, Nat.reduceBEq, Nat.reduceBNe, Nat.reduceGT, Int.reduceAdd, Int.reduceSub, Int.reduceMul, Int.reduceNeg, Int.reduceLT, Int.reduceLE, Int.reduceEq, Int.reduceNe, Int.reduceBEq, Int.reduceBNe, Int.reduceToNat, Int.reduceGT, Int.reduceGE, ↓reduceIte, decide_true, decide_false, eq_self, Nat.mul_one, Nat.zero_mul, Nat.one_mul, Int.le_refl, Nat.le_refl, Int.cast_ofNat_Int, partsT, Option.isNone_none]
          | some P =>
            obtain ⟨a, b, c⟩ := P
            simp (decide := true) (maxSteps := 4000000) only [go_sem, Nat.reduceAdd, Nat.reduceSub, Nat.reduceMul, Nat.reduceDiv, Nat.reduceMod, Nat.reduceLT, Nat.reduceLeDiff, Nat.reduceEqDiff, Nat.reduceBEq, Nat.reduceBNe, Nat.reduceGT, Int.reduceAdd, Int.reduceSub, Int.reduceMul, Int.reduceNeg, Int.reduceLT, Int.reduceLE, Int.reduceEq, Int.reduceNe, Int.reduceBEq, Int.reduceBNe, Int.reduceToNat, Int.reduceGT, Int.reduceGE, ↓reduceIte, decide_true, decide_false, eq_self, Nat.mul_one, Nat.zero_mul, Nat.one_mul, Int.le_refl, Nat.le_refl, Int.cast_ofNat_Int, partsT, Option.isNone_some]
end Go.Proofs.Ytjmkccckohcfkaa

/- Part Oa. -/
namespace Go.Os
open Go Go.Pm Go.Oc Go.Oh
set_option maxRecDepth 100000
/-- The errors of a part, read by a program. -/
def unSc : List TV → Option (List Span)
  | [] => some []
  | .int .i64 a :: .int .i64 b :: r => (unSc r).map (⟨a, b⟩ :: ·)
  | _ => none
theorem unSc_eq : ∀ l : List Span, unSc (l.flatMap Span.cs) = some l
  | [] => rfl
  | p :: l => by
    rw [List.flatMap_cons]
    show (unSc (l.flatMap Span.cs)).map _ = _
    rw [unSc_eq l]; rfl
theorem unSc_some : ∀ {cs : List TV} {l : List Span}, unSc cs = some l → cs = l.flatMap Span.cs := by
  intro cs
  fun_induction unSc cs with
  | case1 => intro l h; cases h; rfl
  | case2 a b r ih =>
    intro l h
    cases hr : unSc r with
    | none => rw [hr] at h; cases h
    | some m =>
      rw [hr] at h
      cases h
      rw [List.flatMap_cons, ← ih hr]; rfl
  | case3 => intro l h; cases h
theorem unS_c (cs : List TV) : unS cs = unSc cs := by
  cases h : unSc cs with
  | some l => rw [unSc_some h]; exact unS_eq l
  | none =>
    cases h' : unS cs with
    | none => rfl
    | some l => rw [unS_some h', unSc_eq] at h; cases h
def errsC (x : Pt) : List Span := match x.s with
  | .sl cs n _ => match unSc cs with
    | some l => if n = l.length then l else []
    | none => []
  | _ => []
theorem errs_c : errs = errsC := by
  funext x
  unfold errs errsC rowL
  cases x.s <;> simp only [unS_c] <;> try rfl
  rename_i cs n f
  cases unSc cs with
  | none => rfl
  | some l => by_cases h : n = l.length <;> simp [h]
def ptG (er : Pt → List Span) (n : Nat) (x : Pt) : Bool := inB x.k 0 2 && (inB x.p 0 1000 && (inB (er x).length 2 12 && (decide ((er x).length = n) && (er x).all (spannedB · (-1000) 1000))))
def firstG (er : Pt → List Span) (l : List Pt) : Nat := match l[0]? with | some x => (er x).length | none => 0
def stockG (er : Pt → List Span) (l : List Pt) : Bool := inB l.length 3 12 && l.all (ptG er (firstG er l))
def prcG (l : List Pt) (i : Nat) : Int := match l[i]? with | some x => x.p | none => 0
def kndG (l : List Pt) (i : Nat) : Int := match l[i]? with | some x => x.k | none => 0
def ersG (er : Pt → List Span) (l : List Pt) (i : Nat) : List Span := match l[i]? with | some x => er x | none => []
def costG (l : List Pt) (a b c : Nat) : Int := prcG l a + prcG l b + prcG l c
def fitG (er : Pt → List Span) (bound : Int) (l : List Pt) (a b c : Nat) : Bool := fitB bound (kndG l a == 0) (kndG l b == 1) (kndG l c == 2) (ersG er l a) (ersG er l b) (ersG er l c)
def stepG (er : Pt → List Span) (bound : Int) (l : List Pt) (a b : Nat) (st : AS) (c : Nat) : AS :=
  if (st.parts.isNone || decide (costG l a b c < st.price)) && fitG er bound l a b c then ⟨some (a, b, c), costG l a b c⟩ else st
def asG (er : Pt → List Span) (bound : Int) (l : List Pt) : AS := (List.range l.length).foldl (fun st a => (List.range l.length).foldl (fun st b => (List.range l.length).foldl (stepG er bound l a b) st) st) ⟨none, 0⟩
theorem asA_G (bound : Int) (l : List Pt) : asA bound l l.length = asG errs bound l := rfl
def asmN (er : Pt → List Span) (l : List Pt) (bound : Int) : Option (Nat × Nat × Nat) × Int × Int :=
  if stockG er l && inB bound 0 5000 then (if (asG er bound l).parts.isNone then (none, 0, 4) else ((asG er bound l).parts, (asG er bound l).price, 0)) else (none, 0, 55)
theorem asmP_N (l : List Pt) (bound : Int) : asmP l bound = (partsT (asmN errsC l bound).1, (asmN errsC l bound).2.1, (asmN errsC l bound).2.2) := by
  rw [← errs_c]
  unfold asmP asmN
  rw [asA_G, show stockB l = stockG errs l from rfl]
  split
  · split <;> rfl
  · rfl
def ownX : Sx := ⟨36000, [⟨0, 0⟩, ⟨-10, 10⟩, ⟨20, 40⟩], ⟨-30, -20⟩, 5, [⟨0, 6⟩, ⟨-4, 4⟩]⟩
def sunsX : List Sun := [⟨1915, 1865⟩, ⟨1912, 1862⟩]
def trialsX : List Tr := [⟨36000, 0, 35985⟩, ⟨72000, 0, 72010⟩, ⟨36000, 0, 35960⟩]
def rw2 (a b c d : Int) : TV := .sl [.int .i64 a, .int .i64 b, .int .i64 c, .int .i64 d] 2 true
def stockX : List Pt := [⟨0, 50, rw2 0 4 0 10⟩, ⟨0, 30, rw2 (-3) 3 (-12) 12⟩, ⟨1, 20, rw2 0 0 2 6⟩, ⟨2, 10, rw2 (-2) 2 (-2) 2⟩, ⟨2, 25, rw2 0 1 0 1⟩]
deriving instance DecidableEq for Span
theorem exRead : readP ownX 54000 1 = (⟨53970, 54016⟩, 0) := by decide +kernel
theorem exIndex : indexP ownX ⟨1880, 1900⟩ sunsX = (⟨-28, -22⟩, ⟨1885, 1892⟩, 0) := by decide +kernel
theorem exTrial : trialP ownX (trialsX.take 2) = ([⟨0, 0⟩, ⟨0, 10⟩, ⟨25, 40⟩], ⟨-30, -20⟩, 0) := by decide +kernel
theorem exFalse : falseP ownX trialsX = ([0, 2], 0) := by decide +kernel
theorem exClass : classP ownX = (2, 54, 0) := by decide +kernel
theorem exStock : stockX.all decP = true := by
  have e : ∀ x ∈ stockX, decP x = true := fun x hx => by
    unfold decP rowL
    simp only [unS_c]
    unfold stockX at hx
    simp only [List.mem_cons, List.not_mem_nil, or_false] at hx
    rcases hx with rfl | rfl | rfl | rfl | rfl <;> decide
  exact List.all_eq_true.2 e
theorem exAsm : asmP stockX 20 = (.sl [.int .i64 1, .int .i64 2, .int .i64 3] 3 true, 60, 0) := by
  rw [asmP_N, show asmN errsC stockX 20 = (some (1, 2, 3), 60, 0) by decide +kernel]; rfl
end Go.Os
namespace Go.Proofs.Ytjmkccckohcfkaa
open Go.RowKit Go.Pm Go.Oc Go.Oh Go.Os
set_option maxRecDepth 100000
set_option linter.unusedVariables false
set_option maxHeartbeats 4000000

noncomputable def sxIndex : List TV → Option TV
  | [.agg [.int .i64 a0, sT, .int .i64 a1, .int .i64 a2, .int .i64 a3, sS], .agg [.int .i64 p, .int .i64 q], s] => match rowL unS sT, rowL unS sS, rowL unSun s with
    | some tab, some shade, some l => if tab.length ≤ 9000000000000 ∧ shade.length ≤ 9000000000000 ∧ l.length ≤ 9000000000000 then some (.tup [(indexP (⟨a0, tab, ⟨a1, a2⟩, a3, shade⟩ : Sx) ⟨p, q⟩ l).1.t, (indexP (⟨a0, tab, ⟨a1, a2⟩, a3, shade⟩ : Sx) ⟨p, q⟩ l).2.1.t, .int .i64 (indexP (⟨a0, tab, ⟨a1, a2⟩, a3, shade⟩ : Sx) ⟨p, q⟩ l).2.2]) else none
    | _, _, _ => none
  | _ => none
theorem sxIndex_ok : ∀ xs r, sxIndex xs = some r → PCalls Try.prog 22 xs r := by
  intro xs r h
  unfold sxIndex at h
  split at h
  · split at h
    · rename_i tab shade l hT hS hl
      have hT := rowL_some (un := unS) unS_nil (@unS_some) hT
      have hS := rowL_some (un := unS) unS_nil (@unS_some) hS
      have hl := rowL_some (un := unSun) unSun_nil (@unSun_some) hl
      split at h
      · rename_i hc; cases h; exact sIndex_c ⟨_, tab, ⟨_, _⟩, _, shade⟩ hT hS hc.1 hc.2.1 ⟨_, _⟩ hl hc.2.2
      · cases h
    · cases h
  · cases h
attribute [go_sem] sxIndex
noncomputable def sxTrial : List TV → Option TV
  | [.agg [.int .i64 a0, sT, .int .i64 a1, .int .i64 a2, .int .i64 a3, sS], s] => match rowL unS sT, rowL unS sS, rowL unTr s with
    | some tab, some shade, some l => if tab.length ≤ 9000000000000 ∧ shade.length ≤ 9000000000000 ∧ l.length ≤ 9000000000000 then some (.tup [rowF1 (trialP (⟨a0, tab, ⟨a1, a2⟩, a3, shade⟩ : Sx) l).1, (trialP (⟨a0, tab, ⟨a1, a2⟩, a3, shade⟩ : Sx) l).2.1.t, .int .i64 (trialP (⟨a0, tab, ⟨a1, a2⟩, a3, shade⟩ : Sx) l).2.2]) else none
    | _, _, _ => none
  | _ => none
theorem sxTrial_ok : ∀ xs r, sxTrial xs = some r → PCalls Try.prog 24 xs r := by
  intro xs r h
  unfold sxTrial at h
  split at h
  · split at h
    · rename_i tab shade l hT hS hl
      have hT := rowL_some (un := unS) unS_nil (@unS_some) hT
      have hS := rowL_some (un := unS) unS_nil (@unS_some) hS
      have hl := rowL_some (un := unTr) unTr_nil (@unTr_some) hl
      split at h
      · rename_i hc; cases h; exact sTrial_c ⟨_, tab, ⟨_, _⟩, _, shade⟩ hT hS hc.1 hc.2.1 hl hc.2.2
      · cases h
    · cases h
  · cases h
attribute [go_sem] sxTrial
noncomputable def sxFalse : List TV → Option TV
  | [.agg [.int .i64 a0, sT, .int .i64 a1, .int .i64 a2, .int .i64 a3, sS], s] => match rowL unS sT, rowL unS sS, rowL unTr s with
    | some tab, some shade, some l => if tab.length ≤ 9000000000000 ∧ shade.length ≤ 9000000000000 ∧ l.length ≤ 9000000000000 then some (.tup [rowI (nI (falseP (⟨a0, tab, ⟨a1, a2⟩, a3, shade⟩ : Sx) l).1), .int .i64 (falseP (⟨a0, tab, ⟨a1, a2⟩, a3, shade⟩ : Sx) l).2]) else none
    | _, _, _ => none
  | _ => none
theorem sxFalse_ok : ∀ xs r, sxFalse xs = some r → PCalls Try.prog 27 xs r := by
  intro xs r h
  unfold sxFalse at h
  split at h
  · split at h
    · rename_i tab shade l hT hS hl
      have hT := rowL_some (un := unS) unS_nil (@unS_some) hT
      have hS := rowL_some (un := unS) unS_nil (@unS_some) hS
      have hl := rowL_some (un := unTr) unTr_nil (@unTr_some) hl
      split at h
      · rename_i hc; cases h; exact sFalse_c ⟨_, tab, ⟨_, _⟩, _, shade⟩ hT hS hc.1 hc.2.1 hl hc.2.2
      · cases h
    · cases h
  · cases h
attribute [go_sem] sxFalse
noncomputable def sxAssemble : List TV → Option TV
  | [s, .int .i64 b] => match rowL unP s with
    | some l => if l.length ≤ 9000000000000 ∧ l.all decP = true then some (.tup [(asmP l b).1, .int .i64 (asmP l b).2.1, .int .i64 (asmP l b).2.2]) else none
    | none => none
  | _ => none
theorem sxAssemble_ok : ∀ xs r, sxAssemble xs = some r → PCalls Try.prog 30 xs r := by
  intro xs r h
  unfold sxAssemble at h
  split at h
  · split at h
    · rename_i l hl
      have hl := rowL_some (un := unP) (by first | rfl | exact unP_nil) (@unP_some) hl
      split at h
      · rename_i hc; cases h; exact sAssemble_c hl hc.1 hc.2 _
      · cases h
    · cases h
  · cases h
attribute [go_sem] sxAssemble
noncomputable def spO1 : Pm.Spec := ((((((spH.one 17 sxCheck).one 15 sxRead).one 19 sxClass).one 22 sxIndex).one 24 sxTrial).one 27 sxFalse).one 30 sxAssemble
@[go_sem] theorem spO1_p (f : FuncId) (xs : List TV) : spO1.p f xs = Pm.Spec.p (((((((spH.one 17 sxCheck).one 15 sxRead).one 19 sxClass).one 22 sxIndex).one 24 sxTrial).one 27 sxFalse).one 30 sxAssemble) f xs := rfl
@[go_sem] theorem spO1_h (f : FuncId) (ps : List PV) (hl : List PO) : spO1.h f ps hl = Pm.Spec.h (((((((spH.one 17 sxCheck).one 15 sxRead).one 19 sxClass).one 22 sxIndex).one 24 sxTrial).one 27 sxFalse).one 30 sxAssemble) f ps hl := rfl
@[go_sem] theorem spO1_fz (f : FuncId) : spO1.fz f = Pm.Spec.fz (((((((spH.one 17 sxCheck).one 15 sxRead).one 19 sxClass).one 22 sxIndex).one 24 sxTrial).one 27 sxFalse).one 30 sxAssemble) f := rfl
@[go_sem] theorem spO1_fr (f : FuncId) : spO1.fr f = Pm.Spec.fr (((((((spH.one 17 sxCheck).one 15 sxRead).one 19 sxClass).one 22 sxIndex).one 24 sxTrial).one 27 sxFalse).one 30 sxAssemble) f := rfl
@[go_sem] theorem spO1_mu (t : TypeId) : spO1.mu t = Pm.Spec.mu (((((((spH.one 17 sxCheck).one 15 sxRead).one 19 sxClass).one 22 sxIndex).one 24 sxTrial).one 27 sxFalse).one 30 sxAssemble) t := rfl
@[go_sem] theorem spO1_nf (t : TypeId) : spO1.nf t = Pm.Spec.nf (((((((spH.one 17 sxCheck).one 15 sxRead).one 19 sxClass).one 22 sxIndex).one 24 sxTrial).one 27 sxFalse).one 30 sxAssemble) t := rfl
theorem spO1_ok : SpecOk Try.prog spO1 := Spec.one_ok sxAssemble_ok (Spec.one_ok sxFalse_ok (Spec.one_ok sxTrial_ok (Spec.one_ok sxIndex_ok (Spec.one_ok sxClass_ok (Spec.one_ok sxRead_ok (Spec.one_ok sxCheck_ok spH_ok))))))
theorem oTo_c (a b : Int) : PCalls Try.prog 40 [.int .i64 a, .int .i64 b] (.agg [.int .i64 a, .int .i64 b]) := by
  refine pcalls_by Try.mixes noSpec_ok (fn := Try.f40) Try.func40 rfl (by kernel_rfl) (by show 2 ≤ _; decide) ?_
  simp (decide := true) (maxSteps := 4000000) only [go_sem, Nat.reduceAdd, Nat.reduceSub, Nat.reduceMul, Nat.reduceDiv, Nat.reduceMod, Nat.reduceLT, Nat.reduceLeDiff, Nat.reduceEqDiff, Nat.reduceBEq, Nat.reduceBNe, Nat.reduceGT, Int.reduceAdd, Int.reduceSub, Int.reduceMul, Int.reduceNeg, Int.reduceLT, Int.reduceLE, Int.reduceEq, Int.reduceNe, Int.reduceBEq, Int.reduceBNe, Int.reduceToNat, Int.reduceGT, Int.reduceGE, ↓reduceIte, decide_true, decide_false, eq_self, Nat.mul_one, Nat.zero_mul, Nat.one_mul, Int.le_refl, Nat.le_refl, Int.cast_ofNat_Int, Try.f40]
noncomputable def xoTo : List TV → Option TV
  | [.int .i64 a, .int .i64 b] => some (.agg [.int .i64 a, .int .i64 b])
  | _ => none
theorem xoTo_ok : ∀ xs r, xoTo xs = some r → PCalls Try.prog 40 xs r := by
  intro xs r h
  unfold xoTo at h
  split at h
  · cases h; exact oTo_c _ _
  · cases h
attribute [go_sem] xoTo
noncomputable def spO2 : Pm.Spec := spO1.one 40 xoTo
@[go_sem] theorem spO2_p (f : FuncId) (xs : List TV) : spO2.p f xs = Pm.Spec.p (spO1.one 40 xoTo) f xs := rfl
@[go_sem] theorem spO2_h (f : FuncId) (ps : List PV) (hl : List PO) : spO2.h f ps hl = Pm.Spec.h (spO1.one 40 xoTo) f ps hl := rfl
@[go_sem] theorem spO2_fz (f : FuncId) : spO2.fz f = Pm.Spec.fz (spO1.one 40 xoTo) f := rfl
@[go_sem] theorem spO2_fr (f : FuncId) : spO2.fr f = Pm.Spec.fr (spO1.one 40 xoTo) f := rfl
@[go_sem] theorem spO2_mu (t : TypeId) : spO2.mu t = Pm.Spec.mu (spO1.one 40 xoTo) t := rfl
@[go_sem] theorem spO2_nf (t : TypeId) : spO2.nf t = Pm.Spec.nf (spO1.one 40 xoTo) t := rfl
theorem spO2_ok : SpecOk Try.prog spO2 := Spec.one_ok xoTo_ok spO1_ok
def ownT : TV := .agg [.int .i64 36000, .sl [.int .i64 0, .int .i64 0, .int .i64 (-10), .int .i64 10, .int .i64 20, .int .i64 40] 3 true, .int .i64 (-30), .int .i64 (-20), .int .i64 5, .sl [.int .i64 0, .int .i64 6, .int .i64 (-4), .int .i64 4] 2 true]
theorem oOwn_c : PCalls Try.prog 50 [] ownT := by
  refine pcalls_by Try.mixes spO2_ok (fn := Try.f50) Try.func50 rfl (by kernel_rfl) (by show 0 ≤ _; decide) ?_
  simp (decide := true) (maxSteps := 4000000) only [go_sem, Nat.reduceAdd, Nat.reduceSub, Nat.reduceMul, Nat.reduceDiv, Nat.reduceMod, Nat.reduceLT, Nat.reduceLeDiff, Nat.reduceEqDiff, Nat.reduceBEq, Nat.reduceBNe, Nat.reduceGT, Int.reduceAdd, Int.reduceSub, Int.reduceMul, Int.reduceNeg, Int.reduceLT, Int.reduceLE, Int.reduceEq, Int.reduceNe, Int.reduceBEq, Int.reduceBNe, Int.reduceToNat, Int.reduceGT, Int.reduceGE, ↓reduceIte, decide_true, decide_false, eq_self, Nat.mul_one, Nat.zero_mul, Nat.one_mul, Int.le_refl, Nat.le_refl, Int.cast_ofNat_Int, Try.f50, ownT]
noncomputable def xoOwn : List TV → Option TV
  | [] => some (ownT)
  | _ => none
theorem xoOwn_ok : ∀ xs r, xoOwn xs = some r → PCalls Try.prog 50 xs r := by
  intro xs r h
  unfold xoOwn at h
  split at h
  · cases h; exact oOwn_c
  · cases h
attribute [go_sem] xoOwn
def sunsT : TV := .sl [.int .i64 1915, .int .i64 1865, .int .i64 1912, .int .i64 1862] 2 true
theorem oSuns_c : PCalls Try.prog 51 [] sunsT := by
  refine pcalls_by Try.mixes spO2_ok (fn := Try.f51) Try.func51 rfl (by kernel_rfl) (by show 0 ≤ _; decide) ?_
  simp (decide := true) (maxSteps := 4000000) only [go_sem, Nat.reduceAdd, Nat.reduceSub, Nat.reduceMul, Nat.reduceDiv, Nat.reduceMod, Nat.reduceLT, Nat.reduceLeDiff, Nat.reduceEqDiff, Nat.reduceBEq, Nat.reduceBNe, Nat.reduceGT, Int.reduceAdd, Int.reduceSub, Int.reduceMul, Int.reduceNeg, Int.reduceLT, Int.reduceLE, Int.reduceEq, Int.reduceNe, Int.reduceBEq, Int.reduceBNe, Int.reduceToNat, Int.reduceGT, Int.reduceGE, ↓reduceIte, decide_true, decide_false, eq_self, Nat.mul_one, Nat.zero_mul, Nat.one_mul, Int.le_refl, Nat.le_refl, Int.cast_ofNat_Int, Try.f51, sunsT]
noncomputable def xoSuns : List TV → Option TV
  | [] => some (sunsT)
  | _ => none
theorem xoSuns_ok : ∀ xs r, xoSuns xs = some r → PCalls Try.prog 51 xs r := by
  intro xs r h
  unfold xoSuns at h
  split at h
  · cases h; exact oSuns_c
  · cases h
attribute [go_sem] xoSuns
theorem oTrial_c (a b : Int) : PCalls Try.prog 52 [.int .i64 a, .int .i64 b] (.agg [.int .i64 a, .int .i64 0, .int .i64 b]) := by
  refine pcalls_by Try.mixes spO2_ok (fn := Try.f52) Try.func52 rfl (by kernel_rfl) (by show 2 ≤ _; decide) ?_
  simp (decide := true) (maxSteps := 4000000) only [go_sem, Nat.reduceAdd, Nat.reduceSub, Nat.reduceMul, Nat.reduceDiv, Nat.reduceMod, Nat.reduceLT, Nat.reduceLeDiff, Nat.reduceEqDiff, Nat.reduceBEq, Nat.reduceBNe, Nat.reduceGT, Int.reduceAdd, Int.reduceSub, Int.reduceMul, Int.reduceNeg, Int.reduceLT, Int.reduceLE, Int.reduceEq, Int.reduceNe, Int.reduceBEq, Int.reduceBNe, Int.reduceToNat, Int.reduceGT, Int.reduceGE, ↓reduceIte, decide_true, decide_false, eq_self, Nat.mul_one, Nat.zero_mul, Nat.one_mul, Int.le_refl, Nat.le_refl, Int.cast_ofNat_Int, Try.f52]
noncomputable def xoTrial : List TV → Option TV
  | [.int .i64 a, .int .i64 b] => some (.agg [.int .i64 a, .int .i64 0, .int .i64 b])
  | _ => none
theorem xoTrial_ok : ∀ xs r, xoTrial xs = some r → PCalls Try.prog 52 xs r := by
  intro xs r h
  unfold xoTrial at h
  split at h
  · cases h; exact oTrial_c _ _
  · cases h
attribute [go_sem] xoTrial
noncomputable def spO3 : Pm.Spec := spO2.one 52 xoTrial
@[go_sem] theorem spO3_p (f : FuncId) (xs : List TV) : spO3.p f xs = Pm.Spec.p (spO2.one 52 xoTrial) f xs := rfl
@[go_sem] theorem spO3_h (f : FuncId) (ps : List PV) (hl : List PO) : spO3.h f ps hl = Pm.Spec.h (spO2.one 52 xoTrial) f ps hl := rfl
@[go_sem] theorem spO3_fz (f : FuncId) : spO3.fz f = Pm.Spec.fz (spO2.one 52 xoTrial) f := rfl
@[go_sem] theorem spO3_fr (f : FuncId) : spO3.fr f = Pm.Spec.fr (spO2.one 52 xoTrial) f := rfl
@[go_sem] theorem spO3_mu (t : TypeId) : spO3.mu t = Pm.Spec.mu (spO2.one 52 xoTrial) t := rfl
@[go_sem] theorem spO3_nf (t : TypeId) : spO3.nf t = Pm.Spec.nf (spO2.one 52 xoTrial) t := rfl
theorem spO3_ok : SpecOk Try.prog spO3 := Spec.one_ok xoTrial_ok spO2_ok
def trialsT : TV := .sl [.int .i64 36000, .int .i64 0, .int .i64 35985, .int .i64 72000, .int .i64 0, .int .i64 72010, .int .i64 36000, .int .i64 0, .int .i64 35960] 3 true
theorem oTrials_c : PCalls Try.prog 53 [] trialsT := by
  refine pcalls_by Try.mixes spO3_ok (fn := Try.f53) Try.func53 rfl (by kernel_rfl) (by show 0 ≤ _; decide) ?_
  simp (decide := true) (maxSteps := 4000000) only [go_sem, Nat.reduceAdd, Nat.reduceSub, Nat.reduceMul, Nat.reduceDiv, Nat.reduceMod, Nat.reduceLT, Nat.reduceLeDiff, Nat.reduceEqDiff, Nat.reduceBEq, Nat.reduceBNe, Nat.reduceGT, Int.reduceAdd, Int.reduceSub, Int.reduceMul, Int.reduceNeg, Int.reduceLT, Int.reduceLE, Int.reduceEq, Int.reduceNe, Int.reduceBEq, Int.reduceBNe, Int.reduceToNat, Int.reduceGT, Int.reduceGE, ↓reduceIte, decide_true, decide_false, eq_self, Nat.mul_one, Nat.zero_mul, Nat.one_mul, Int.le_refl, Nat.le_refl, Int.cast_ofNat_Int, Try.f53, trialsT]
noncomputable def xoTrials : List TV → Option TV
  | [] => some (trialsT)
  | _ => none
theorem xoTrials_ok : ∀ xs r, xoTrials xs = some r → PCalls Try.prog 53 xs r := by
  intro xs r h
  unfold xoTrials at h
  split at h
  · cases h; exact oTrials_c
  · cases h
attribute [go_sem] xoTrials
def stockT : TV := .sl [.int .i64 0, .int .i64 50, rw2 0 4 0 10, .int .i64 0, .int .i64 30, rw2 (-3) 3 (-12) 12, .int .i64 1, .int .i64 20, rw2 0 0 2 6, .int .i64 2, .int .i64 10, rw2 (-2) 2 (-2) 2, .int .i64 2, .int .i64 25, rw2 0 1 0 1] 5 true
theorem oStock_c : PCalls Try.prog 54 [] stockT := by
  refine pcalls_by Try.mixes spO3_ok (fn := Try.f54) Try.func54 rfl (by kernel_rfl) (by show 0 ≤ _; decide) ?_
  simp (decide := true) (maxSteps := 4000000) only [go_sem, Nat.reduceAdd, Nat.reduceSub, Nat.reduceMul, Nat.reduceDiv, Nat.reduceMod, Nat.reduceLT, Nat.reduceLeDiff, Nat.reduceEqDiff, Nat.reduceBEq, Nat.reduceBNe, Nat.reduceGT, Int.reduceAdd, Int.reduceSub, Int.reduceMul, Int.reduceNeg, Int.reduceLT, Int.reduceLE, Int.reduceEq, Int.reduceNe, Int.reduceBEq, Int.reduceBNe, Int.reduceToNat, Int.reduceGT, Int.reduceGE, ↓reduceIte, decide_true, decide_false, eq_self, Nat.mul_one, Nat.zero_mul, Nat.one_mul, Int.le_refl, Nat.le_refl, Int.cast_ofNat_Int, Try.f54, stockT, rw2]
noncomputable def xoStock : List TV → Option TV
  | [] => some (stockT)
  | _ => none
theorem xoStock_ok : ∀ xs r, xoStock xs = some r → PCalls Try.prog 54 xs r := by
  intro xs r h
  unfold xoStock at h
  split at h
  · cases h; exact oStock_c
  · cases h
attribute [go_sem] xoStock
noncomputable def spO4 : Pm.Spec := (((spO3.one 50 xoOwn).one 51 xoSuns).one 53 xoTrials).one 54 xoStock
@[go_sem] theorem spO4_p (f : FuncId) (xs : List TV) : spO4.p f xs = Pm.Spec.p ((((spO3.one 50 xoOwn).one 51 xoSuns).one 53 xoTrials).one 54 xoStock) f xs := rfl
@[go_sem] theorem spO4_h (f : FuncId) (ps : List PV) (hl : List PO) : spO4.h f ps hl = Pm.Spec.h ((((spO3.one 50 xoOwn).one 51 xoSuns).one 53 xoTrials).one 54 xoStock) f ps hl := rfl
@[go_sem] theorem spO4_fz (f : FuncId) : spO4.fz f = Pm.Spec.fz ((((spO3.one 50 xoOwn).one 51 xoSuns).one 53 xoTrials).one 54 xoStock) f := rfl
@[go_sem] theorem spO4_fr (f : FuncId) : spO4.fr f = Pm.Spec.fr ((((spO3.one 50 xoOwn).one 51 xoSuns).one 53 xoTrials).one 54 xoStock) f := rfl
@[go_sem] theorem spO4_mu (t : TypeId) : spO4.mu t = Pm.Spec.mu ((((spO3.one 50 xoOwn).one 51 xoSuns).one 53 xoTrials).one 54 xoStock) t := rfl
@[go_sem] theorem spO4_nf (t : TypeId) : spO4.nf t = Pm.Spec.nf ((((spO3.one 50 xoOwn).one 51 xoSuns).one 53 xoTrials).one 54 xoStock) t := rfl
theorem spO4_ok : SpecOk Try.prog spO4 := Spec.one_ok xoStock_ok (Spec.one_ok xoTrials_ok (Spec.one_ok xoSuns_ok (Spec.one_ok xoOwn_ok spO3_ok)))
theorem oWorks_c : PCalls Try.prog 21 [] (.bool true) := by
  have e1 : unS [.int .i64 0, .int .i64 0, .int .i64 (-10), .int .i64 10, .int .i64 20, .int .i64 40] = some [⟨0, 0⟩, ⟨-10, 10⟩, ⟨20, 40⟩] := unS_eq [⟨0, 0⟩, ⟨-10, 10⟩, ⟨20, 40⟩]
  have e2 : unS [.int .i64 0, .int .i64 6, .int .i64 (-4), .int .i64 4] = some [⟨0, 6⟩, ⟨-4, 4⟩] := unS_eq [⟨0, 6⟩, ⟨-4, 4⟩]
  have e3 : unSun [.int .i64 1915, .int .i64 1865, .int .i64 1912, .int .i64 1862] = some [⟨1915, 1865⟩, ⟨1912, 1862⟩] := unSun_eq [⟨1915, 1865⟩, ⟨1912, 1862⟩]
  have e4 : unTr [.int .i64 36000, .int .i64 0, .int .i64 35985, .int .i64 72000, .int .i64 0, .int .i64 72010] = some (trialsX.take 2) := unTr_eq (trialsX.take 2)
  have e5 : unTr [.int .i64 36000, .int .i64 0, .int .i64 35985, .int .i64 72000, .int .i64 0, .int .i64 72010, .int .i64 36000, .int .i64 0, .int .i64 35960] = some trialsX := unTr_eq trialsX
  have e6 : unP [.int .i64 0, .int .i64 50, rw2 0 4 0 10, .int .i64 0, .int .i64 30, rw2 (-3) 3 (-12) 12, .int .i64 1, .int .i64 20, rw2 0 0 2 6, .int .i64 2, .int .i64 10, rw2 (-2) 2 (-2) 2, .int .i64 2, .int .i64 25, rw2 0 1 0 1] = some stockX := unP_eq stockX
  have eo : Sx.mk 36000 [⟨0, 0⟩, ⟨-10, 10⟩, ⟨20, 40⟩] ⟨-30, -20⟩ 5 [⟨0, 6⟩, ⟨-4, 4⟩] = ownX := rfl
  have es : [(⟨1915, 1865⟩ : Sun), ⟨1912, 1862⟩] = sunsX := rfl
  have l1 : (trialsX.take 2).length = 2 := rfl
  have l2 : trialsX.length = 3 := rfl
  have l3 : stockX.length = 5 := rfl
  have e7 : unS [.int .i64 0, .int .i64 0, .int .i64 0, .int .i64 10, .int .i64 25, .int .i64 40] = some [⟨0, 0⟩, ⟨0, 10⟩, ⟨25, 40⟩] := unS_eq [⟨0, 0⟩, ⟨0, 10⟩, ⟨25, 40⟩]
  have r1 : rowF1 [⟨0, 0⟩, ⟨0, 10⟩, ⟨25, 40⟩] = .sl [.int .i64 0, .int .i64 0, .int .i64 0, .int .i64 10, .int .i64 25, .int .i64 40] 3 true := rfl
  have r2 : rowI (nI [0, 2]) = .sl [.int .i64 0, .int .i64 2] 2 false := rfl
  have e8 : unI [.int .i64 0, .int .i64 2] = some [0, 2] := unI_eq [0, 2]
  have e9 : unI [.int .i64 1, .int .i64 2, .int .i64 3] = some [1, 2, 3] := unI_eq [1, 2, 3]
  refine pcalls_by Try.mixes spO4_ok (fn := Try.f21) Try.func21 rfl (by kernel_rfl) (by show 0 ≤ _; decide) ?_
  simp (decide := true) (maxSteps := 4000000) only [go_sem, Nat.reduceAdd, Nat.reduceSub, Nat.reduceMul, Nat.reduceDiv, Nat.reduceMod, Nat.reduceLT, Nat.reduceLeDiff, Nat.reduceEqDiff, Nat.reduceBEq, Nat.reduceBNe, Nat.reduceGT, Int.reduceAdd, Int.reduceSub, Int.reduceMul, Int.reduceNeg, Int.reduceLT, Int.reduceLE, Int.reduceEq, Int.reduceNe, Int.reduceBEq, Int.reduceBNe, Int.reduceToNat, Int.reduceGT, Int.reduceGE, ↓reduceIte, decide_true, decide_false, eq_self, Nat.mul_one, Nat.zero_mul, Nat.one_mul, Int.le_refl, Nat.le_refl, Int.cast_ofNat_Int, Try.f21, ownT, sunsT, trialsT, stockT, e1, e2, e3, e4, e5, e6, e7, e8, e9, eo, es, l1, l2, l3, r1, r2, exRead, exIndex, exTrial, exFalse, exClass, exStock, exAsm, List.length_cons, List.length_nil, Span.t, Span.cs]
  done
noncomputable def xoWorks : List TV → Option TV
  | [] => some (.bool true)
  | _ => none
theorem xoWorks_ok : ∀ xs r, xoWorks xs = some r → PCalls Try.prog 21 xs r := by
  intro xs r h
  unfold xoWorks at h
  split at h
  · cases h; exact oWorks_c
  · cases h
attribute [go_sem] xoWorks
noncomputable def spO5 : Pm.Spec := spO2.one 21 xoWorks
@[go_sem] theorem spO5_p (f : FuncId) (xs : List TV) : spO5.p f xs = Pm.Spec.p (spO2.one 21 xoWorks) f xs := rfl
@[go_sem] theorem spO5_h (f : FuncId) (ps : List PV) (hl : List PO) : spO5.h f ps hl = Pm.Spec.h (spO2.one 21 xoWorks) f ps hl := rfl
@[go_sem] theorem spO5_fz (f : FuncId) : spO5.fz f = Pm.Spec.fz (spO2.one 21 xoWorks) f := rfl
@[go_sem] theorem spO5_fr (f : FuncId) : spO5.fr f = Pm.Spec.fr (spO2.one 21 xoWorks) f := rfl
@[go_sem] theorem spO5_mu (t : TypeId) : spO5.mu t = Pm.Spec.mu (spO2.one 21 xoWorks) t := rfl
@[go_sem] theorem spO5_nf (t : TypeId) : spO5.nf t = Pm.Spec.nf (spO2.one 21 xoWorks) t := rfl
theorem spO5_ok : SpecOk Try.prog spO5 := Spec.one_ok xoWorks_ok spO2_ok
end Go.Proofs.Ytjmkccckohcfkaa

/- Part Suh. -/
namespace Go.Os
open Go Go.Pm Go.Oc Go.Oh
/-- What lies between the ends of a span, no more (or nothing does). -/
def Hull (e : Bool) (s : Span) (Q : Int → Prop) : Prop := (e = true ∧ ∀ z, ¬ Q z) ∨ (e = false ∧ Q s.lo ∧ Q s.hi ∧ ∀ z, Q z → s.lo ≤ z ∧ z ≤ s.hi)
theorem widerS_t (s : Span) (n : Int) : widerS s n true = ⟨n, n⟩ := rfl
theorem widerS_f (s : Span) (n : Int) : widerS s n false = ⟨min s.lo n, max s.hi n⟩ := rfl
theorem hull_same {e : Bool} {s : Span} {Q Q' : Int → Prop} (h : Hull e s Q) (hq : ∀ z, Q' z ↔ Q z) : Hull e s Q' := by
  have : Q' = Q := funext fun z => propext (hq z)
  rw [this]; exact h
theorem hull_add {e : Bool} {s : Span} {Q : Int → Prop} (h : Hull e s Q) (n : Int) : Hull false (widerS s n e) (fun z => Q z ∨ z = n) := by
  rcases h with ⟨rfl, h⟩ | ⟨rfl, h1, h2, h3⟩
  · rw [widerS_t]
    exact .inr ⟨rfl, .inr rfl, .inr rfl, fun z hz => by rcases hz with hz | rfl; exact absurd hz (h z); simp⟩
  · rw [widerS_f]
    refine .inr ⟨rfl, ?_, ?_, fun z hz => ?_⟩
    · simp only
      by_cases c : s.lo ≤ n
      · rw [show min s.lo n = s.lo by omega]; exact .inl h1
      · rw [show min s.lo n = n by omega]; exact .inr rfl
    · simp only
      by_cases c : n ≤ s.hi
      · rw [show max s.hi n = s.hi by omega]; exact .inl h2
      · rw [show max s.hi n = n by omega]; exact .inr rfl
    · simp only
      rcases hz with hz | rfl
      · have := h3 z hz; omega
      · omega
theorem hull_span {e : Bool} {s : Span} {Q : Int → Prop} (h : Hull e s Q) {lo hi : Int} (hl : lo ≤ hi) : Hull false (widerS (widerS s lo e) hi false) (fun z => Q z ∨ (lo ≤ z ∧ z ≤ hi)) := by
  have h1 := hull_add (hull_add h lo) hi
  rcases h1 with ⟨he, _⟩ | ⟨_, a, b, c⟩
  · cases he
  · refine .inr ⟨rfl, ?_, ?_, fun z hz => ?_⟩
    · rcases a with (a | a) | a
      · exact .inl a
      · exact .inr (by omega)
      · exact .inr (by omega)
    · rcases b with (b | b) | b
      · exact .inl b
      · exact .inr (by omega)
      · exact .inr (by omega)
    · rcases hz with hz | hz
      · exact c z (.inl (.inl hz))
      · have u := c lo (.inl (.inr rfl)); have v := c hi (.inr rfl); omega
theorem hull_one {e e' : Bool} {s s' : Span} {Q : Int → Prop} (h : Hull e s Q) (h' : Hull e' s' Q) : e = e' ∧ (e = false → s = s') := by
  rcases h with ⟨rfl, h⟩ | ⟨rfl, h1, h2, h3⟩ <;> rcases h' with ⟨rfl, h'⟩ | ⟨rfl, h1', h2', h3'⟩
  · exact ⟨rfl, fun h => (by cases h)⟩
  · exact absurd h1' (h _)
  · exact absurd h1 (h' _)
  · refine ⟨rfl, fun _ => ?_⟩
    obtain ⟨a, b⟩ := s; obtain ⟨c, d⟩ := s'
    have u := h3 _ h1'; have v := h3 _ h2'; have w := h3' _ h1; have t := h3' _ h2
    simp only at *
    rw [show a = c by omega, show b = d by omega]
end Go.Os

/- Part Ra. -/
namespace Go.Os
open Go Go.Pm Go.Oc Go.Oh
theorem sxOk_wr (x : Sx) : sxOk x = ((inB x.step 1 72000 && (inB x.tab.length 2 12 && (decide (IntKind.i64.wrap (x.step * IntKind.i64.wrap (x.tab.length - 1)) ≤ 504000) && (spannedB x.idx (-1800) 1800 && (inB x.wrong 0 60 && decide ((x.shade.length : Int) ≤ 6)))))) && x.tab.all (spannedB · (-600) 600) && x.shade.all (spannedB · (-120) 120)) := by
  have hid : ∀ a b c d e f g h : Bool, (a && (b && (c && (d && (e && (f && (g && h))))))) = ((a && (b && (d && (e && (f && g))))) && c && h) := by decide
  unfold sxOk
  rw [← hid]
  cases h1 : inB x.step 1 72000 with
  | false => rfl
  | true => cases h2 : inB (x.tab.length : Int) 2 12 with
    | false => rfl
    | true =>
      have h1 := inB_iff.1 h1
      have h2 := inB_iff.1 h2
      have hb := mulR (a := x.step) (b := (x.tab.length : Int) - 1) (m := 72000) (n := 11) (by omega) (by omega) (by omega)
      rw [wrap_in (n := (x.tab.length : Int) - 1) (by omega) (by omega), wrap_in (by omega) (by omega)]
theorem and6 : ∀ a b c d e f : Bool, (a && b && c && d && e && f) = (a && (b && (c && (d && (e && f))))) := by decide
theorem allTo {p : Span → Bool} {l : List Span} {k : Nat} {s : Span} (B : Bool) (h : l[k]? = some s) (hb : (B && (l.take k).all p) = true) : (B && (l.take (k + 1)).all p) = p s := by
  rw [take_all p h]
  rw [Bool.and_eq_true] at hb
  rw [hb.1, hb.2]; simp
theorem allStop {p : Span → Bool} {l : List Span} {k : Nat} (B : Bool) (hb : (B && (l.take k).all p) = false) : (B && l.all p) = false := by
  cases B with
  | false => rfl
  | true =>
    rw [Bool.true_and] at hb ⊢
    rw [List.all_eq_false] at hb ⊢
    obtain ⟨x, hx, hp⟩ := hb
    exact ⟨x, List.mem_of_mem_take hx, hp⟩
theorem allToA {α : Type} {p : α → Bool} {l : List α} {k : Nat} {s : α} (B : Bool) (h : l[k]? = some s) (hb : (B && (l.take k).all p) = true) : (B && (l.take (k + 1)).all p) = p s := by
  rw [take_all p h]
  rw [Bool.and_eq_true] at hb
  rw [hb.1, hb.2]; simp
theorem allStopA {α : Type} {p : α → Bool} {l : List α} {k : Nat} (B : Bool) (hb : (B && (l.take k).all p) = false) : (B && l.all p) = false := by
  cases B with
  | false => rfl
  | true =>
    rw [Bool.true_and] at hb ⊢
    rw [List.all_eq_false] at hb ⊢
    obtain ⟨x, hx, hp⟩ := hb
    exact ⟨x, List.mem_of_mem_take hx, hp⟩
end Go.Os
namespace Go.Proofs.Ytjmkccckohcfkaa
open Go.RowKit Go.Pm Go.Oc Go.Oh Go.Os
set_option maxRecDepth 100000
set_option linter.unusedVariables false
set_option maxHeartbeats 4000000

theorem rLastW_c (x : Sx) {sT sS : TV} (hT : IsRow Span.cs sT x.tab) : PCalls Try.prog 64 [x.t sT sS] (.int .i64 (IntKind.i64.wrap (x.step * IntKind.i64.wrap (x.tab.length - 1)))) := by
  refine pcalls_by Try.mixes noSpec_ok (fn := Try.f64) Try.func64 rfl (by kernel_rfl) (by show 1 ≤ _; decide) ?_
  rcases hT with ⟨rfl, hT⟩ | ⟨f, rfl⟩
  · rw [hT]
    simp (decide := true) (maxSteps := 4000000) only [go_sem, Nat.reduceAdd, Nat.reduceSub, Nat.reduceMul, Nat.reduceDiv, Nat.reduceMod, Nat.reduceLT, Nat.reduceLeDiff, Nat.reduceEqDiff, Nat.reduceBEq, Nat.reduceBNe, Nat.reduceGT, Int.reduceAdd, Int.reduceSub, Int.reduceMul, Int.reduceNeg, Int.reduceLT, Int.reduceLE, Int.reduceEq, Int.reduceNe, Int.reduceBEq, Int.reduceBNe, Int.reduceToNat, Int.reduceGT, Int.reduceGE, ↓reduceIte, decide_true, decide_false, eq_self, Nat.mul_one, Nat.zero_mul, Nat.one_mul, Int.le_refl, Nat.le_refl, Int.cast_ofNat_Int, Try.f64, Sx.t, Sx.cs, List.length_nil]
  · simp (decide := true) (maxSteps := 4000000) only [go_sem, Nat.reduceAdd, Nat.reduceSub, Nat.reduceMul, Nat.reduceDiv, Nat.reduceMod, Nat.reduceLT, Nat.reduceLeDiff, Nat.reduceEqDiff, Nat.reduceBEq, Nat.reduceBNe, Nat.reduceGT, Int.reduceAdd, Int.reduceSub, Int.reduceMul, Int.reduceNeg, Int.reduceLT, Int.reduceLE, Int.reduceEq, Int.reduceNe, Int.reduceBEq, Int.reduceBNe, Int.reduceToNat, Int.reduceGT, Int.reduceGE, ↓reduceIte, decide_true, decide_false, eq_self, Nat.mul_one, Nat.zero_mul, Nat.one_mul, Int.le_refl, Nat.le_refl, Int.cast_ofNat_Int, Try.f64, Sx.t, Sx.cs]
noncomputable def rxLast : List TV → Option TV
  | [.agg [.int .i64 a0, sT, .int .i64 a1, .int .i64 a2, .int .i64 a3, sS]] => match rowL unS sT, rowL unS sS with
    | some tab, some shade => if True then some (.int .i64 (IntKind.i64.wrap (a0 * IntKind.i64.wrap (tab.length - 1)))) else none
    | _, _ => none
  | _ => none
theorem rxLast_ok : ∀ xs r, rxLast xs = some r → PCalls Try.prog 64 xs r := by
  intro xs r h
  unfold rxLast at h
  split at h
  · split at h
    · rename_i tab shade hT hS
      have hT := rowL_some (un := unS) unS_nil (@unS_some) hT
      have hS := rowL_some (un := unS) unS_nil (@unS_some) hS
      split at h
      · rename_i hc; cases h; exact rLastW_c ⟨_, tab, ⟨_, _⟩, _, shade⟩ hT
      · cases h
    · cases h
  · cases h
attribute [go_sem] rxLast
noncomputable def spRx : Pm.Spec := spH.one 64 rxLast
@[go_sem] theorem spRx_p (f : FuncId) (xs : List TV) : spRx.p f xs = Pm.Spec.p (spH.one 64 rxLast) f xs := rfl
@[go_sem] theorem spRx_h (f : FuncId) (ps : List PV) (hl : List PO) : spRx.h f ps hl = Pm.Spec.h (spH.one 64 rxLast) f ps hl := rfl
@[go_sem] theorem spRx_fz (f : FuncId) : spRx.fz f = Pm.Spec.fz (spH.one 64 rxLast) f := rfl
@[go_sem] theorem spRx_fr (f : FuncId) : spRx.fr f = Pm.Spec.fr (spH.one 64 rxLast) f := rfl
@[go_sem] theorem spRx_mu (t : TypeId) : spRx.mu t = Pm.Spec.mu (spH.one 64 rxLast) t := rfl
@[go_sem] theorem spRx_nf (t : TypeId) : spRx.nf t = Pm.Spec.nf (spH.one 64 rxLast) t := rfl
theorem spRx_ok : SpecOk Try.prog spRx := Spec.one_ok rxLast_ok spH_ok
theorem rCheck_c (x : Sx) {sT sS : TV} (hT : IsRow Span.cs sT x.tab) (hS : IsRow Span.cs sS x.shade) (lT : x.tab.length ≤ 9000000000000) (lS : x.shade.length ≤ 9000000000000) : PCalls Try.prog 18 [x.t sT sS] (.int .i64 (if sxOk x then 0 else 50)) := by
  have rT := rowS_is hT
  have rS := rowS_is hS
  unfold rowL at rT rS
  simp only [unS_nil] at rT rS
  have hok := sxOk_wr x
  obtain ⟨B, hB⟩ : ∃ B, (inB x.step 1 72000 && (inB x.tab.length 2 12 && (decide (IntKind.i64.wrap (x.step * IntKind.i64.wrap (x.tab.length - 1)) ≤ 504000) && (spannedB x.idx (-1800) 1800 && (inB x.wrong 0 60 && decide ((x.shade.length : Int) ≤ 6)))))) = B := ⟨_, rfl⟩
  rw [hB] at hok
  have ei : Span.mk x.idx.lo x.idx.hi = x.idx := rfl
  refine pcalls_by Try.mixes spRx_ok (fn := Try.f18) Try.func18 rfl (by kernel_rfl) (by show 1 ≤ _; decide) ?_
  rcases hT with ⟨rfl, hT⟩ | ⟨f, rfl⟩
  · have hBf : B = false := by
      rw [← hB, hT]
      rw [show inB (([] : List Span).length : Int) 2 12 = false from rfl]
      simp
    have h2 : inB 0 2 12 = false := rfl
    rw [hok, hBf]
    simp only [Bool.false_and]
    have c0 : ∀ b : Bool, (b && false) = false := by decide
    rcases hS with ⟨rfl, hS⟩ | ⟨g, rfl⟩
    all_goals
      simp (decide := true) (maxSteps := 4000000) only [go_sem, Nat.reduceAdd, Nat.reduceSub, Nat.reduceMul, Nat.reduceDiv, Nat.reduceMod, Nat.reduceLT, Nat.reduceLeDiff, Nat.reduceEqDiff, Nat.reduceBEq, Nat.reduceBNe, Nat.reduceGT, Int.reduceAdd, Int.reduceSub, Int.reduceMul, Int.reduceNeg, Int.reduceLT, Int.reduceLE, Int.reduceEq, Int.reduceNe, Int.reduceBEq, Int.reduceBNe, Int.reduceToNat, Int.reduceGT, Int.reduceGE, ↓reduceIte, decide_true, decide_false, eq_self, Nat.mul_one, Nat.zero_mul, Nat.one_mul, Int.le_refl, Nat.le_refl, Int.cast_ofNat_Int, Try.f18, Sx.t, Sx.cs, rT, rS, unS_eq, ei, lT, lS, h2, Bool.and_false, Bool.false_and]
      refine pwpC_loopU (A := Unit) [1] (fun _ => [(4, .t (.int .i64 0)), (3, .t (.bool false))]) (fun _ => []) (fun _ => 0) () (by decide) (fun _ => by rfl) ?_ fun Q1 hQ1 _ I1 hI1 => ?_
      · simp (decide := true) (maxSteps := 4000000) only [go_sem, Nat.reduceAdd, Nat.reduceSub, Nat.reduceMul, Nat.reduceDiv, Nat.reduceMod, Nat.reduceLT, Nat.reduceLeDiff, Nat.reduceEqDiff, Nat.reduceBEq, Nat.reduceBNe, Nat.reduceGT, Int.reduceAdd, Int.reduceSub, Int.reduceMul, Int.reduceNeg, Int.reduceLT, Int.reduceLE, Int.reduceEq, Int.reduceNe, Int.reduceBEq, Int.reduceBNe, Int.reduceToNat, Int.reduceGT, Int.reduceGE, ↓reduceIte, decide_true, decide_false, eq_self, Nat.mul_one, Nat.zero_mul, Nat.one_mul, Int.le_refl, Nat.le_refl, Int.cast_ofNat_Int]
      · simp (decide := true) (maxSteps := 4000000) only [go_sem, Nat.reduceAdd, Nat.reduceSub, Nat.reduceMul, Nat.reduceDiv, Nat.reduceMod, Nat.reduceLT, Nat.reduceLeDiff, Nat.reduceEqDiff, Nat.reduceBEq, Nat.reduceBNe, Nat.reduceGT, Int.reduceAdd, Int.reduceSub, Int.reduceMul, Int.reduceNeg, Int.reduceLT, Int.reduceLE, Int.reduceEq, Int.reduceNe, Int.reduceBEq, Int.reduceBNe, Int.reduceToNat, Int.reduceGT, Int.reduceGE, ↓reduceIte, decide_true, decide_false, eq_self, Nat.mul_one, Nat.zero_mul, Nat.one_mul, Int.le_refl, Nat.le_refl, Int.cast_ofNat_Int, Bool.false_and]
        refine hQ1 _ _ ?_
        simp (decide := true) (maxSteps := 4000000) only [go_sem, Nat.reduceAdd, Nat.reduceSub, Nat.reduceMul, Nat.reduceDiv, Nat.reduceMod, Nat.reduceLT, Nat.reduceLeDiff, Nat.reduceEqDiff, Nat.reduceBEq, Nat.reduceBNe, Nat.reduceGT, Int.reduceAdd, Int.reduceSub, Int.reduceMul, Int.reduceNeg, Int.reduceLT, Int.reduceLE, Int.reduceEq, Int.reduceNe, Int.reduceBEq, Int.reduceBNe, Int.reduceToNat, Int.reduceGT, Int.reduceGE, ↓reduceIte, decide_true, decide_false, eq_self, Nat.mul_one, Nat.zero_mul, Nat.one_mul, Int.le_refl, Nat.le_refl, Int.cast_ofNat_Int]
        refine pwpC_loopU (A := Unit) [1] (fun _ => [(5, .t (.int .i64 0)), (3, .t (.bool false))]) (fun _ => []) (fun _ => 0) () (by decide) (fun _ => by rfl) ?_ fun Q2 hQ2 _ I2 hI2 => ?_
        · simp (decide := true) (maxSteps := 4000000) only [go_sem, Nat.reduceAdd, Nat.reduceSub, Nat.reduceMul, Nat.reduceDiv, Nat.reduceMod, Nat.reduceLT, Nat.reduceLeDiff, Nat.reduceEqDiff, Nat.reduceBEq, Nat.reduceBNe, Nat.reduceGT, Int.reduceAdd, Int.reduceSub, Int.reduceMul, Int.reduceNeg, Int.reduceLT, Int.reduceLE, Int.reduceEq, Int.reduceNe, Int.reduceBEq, Int.reduceBNe, Int.reduceToNat, Int.reduceGT, Int.reduceGE, ↓reduceIte, decide_true, decide_false, eq_self, Nat.mul_one, Nat.zero_mul, Nat.one_mul, Int.le_refl, Nat.le_refl, Int.cast_ofNat_Int]
        · simp (decide := true) (maxSteps := 4000000) only [go_sem, Nat.reduceAdd, Nat.reduceSub, Nat.reduceMul, Nat.reduceDiv, Nat.reduceMod, Nat.reduceLT, Nat.reduceLeDiff, Nat.reduceEqDiff, Nat.reduceBEq, Nat.reduceBNe, Nat.reduceGT, Int.reduceAdd, Int.reduceSub, Int.reduceMul, Int.reduceNeg, Int.reduceLT, Int.reduceLE, Int.reduceEq, Int.reduceNe, Int.reduceBEq, Int.reduceBNe, Int.reduceToNat, Int.reduceGT, Int.reduceGE, ↓reduceIte, decide_true, decide_false, eq_self, Nat.mul_one, Nat.zero_mul, Nat.one_mul, Int.le_refl, Nat.le_refl, Int.cast_ofNat_Int, Bool.false_and]
          refine hQ2 _ _ ?_
          simp (decide := true) (maxSteps := 4000000) only [go_sem, Nat.reduceAdd, Nat.reduceSub, Nat.reduceMul, Nat.reduceDiv, Nat.reduceMod, Nat.reduceLT, Nat.reduceLeDiff, Nat.reduceEqDiff, Nat.reduceBEq, Nat.reduceBNe, Nat.reduceGT, Int.reduceAdd, Int.reduceSub, Int.reduceMul, Int.reduceNeg, Int.reduceLT, Int.reduceLE, Int.reduceEq, Int.reduceNe, Int.reduceBEq, Int.reduceBNe, Int.reduceToNat, Int.reduceGT, Int.reduceGE, ↓reduceIte, decide_true, decide_false, eq_self, Nat.mul_one, Nat.zero_mul, Nat.one_mul, Int.le_refl, Nat.le_refl, Int.cast_ofNat_Int]
  · rcases hS with ⟨rfl, hS⟩ | ⟨g, rfl⟩
    · have hB0 : (inB x.step 1 72000 && (inB x.tab.length 2 12 && (decide (IntKind.i64.wrap (x.step * IntKind.i64.wrap (x.tab.length - 1)) ≤ 504000) && (spannedB x.idx (-1800) 1800 && inB x.wrong 0 60)))) = B := by
        rw [← hB, hS]; simp
      simp (decide := true) (maxSteps := 4000000) only [go_sem, Nat.reduceAdd, Nat.reduceSub, Nat.reduceMul, Nat.reduceDiv, Nat.reduceMod, Nat.reduceLT, Nat.reduceLeDiff, Nat.reduceEqDiff, Nat.reduceBEq, Nat.reduceBNe, Nat.reduceGT, Int.reduceAdd, Int.reduceSub, Int.reduceMul, Int.reduceNeg, Int.reduceLT, Int.reduceLE, Int.reduceEq, Int.reduceNe, Int.reduceBEq, Int.reduceBNe, Int.reduceToNat, Int.reduceGT, Int.reduceGE, ↓reduceIte, decide_true, decide_false, eq_self, Nat.mul_one, Nat.zero_mul, Nat.one_mul, Int.le_refl, Nat.le_refl, Int.cast_ofNat_Int, Try.f18, Sx.t, Sx.cs, rT, rS, unS_eq, ei, lT, lS, and6, hB0]
      refine pwpC_loopU (A := { k : Nat // k ≤ x.tab.length }) [1] (fun k => [(4, .t (.int .i64 k.1)), (3, .t (.bool (B && (x.tab.take k.1).all (spannedB · (-600) 600))))]) (fun _ => []) (fun k => x.tab.length - k.1) ⟨0, by omega⟩ (by decide) (fun _ => by rfl) ?_ fun Q1 hQ1 ⟨k, hk⟩ I1 hI1 => ?_
      · simp (decide := true) (maxSteps := 4000000) only [go_sem, Nat.reduceAdd, Nat.reduceSub, Nat.reduceMul, Nat.reduceDiv, Nat.reduceMod, Nat.reduceLT, Nat.reduceLeDiff, Nat.reduceEqDiff, Nat.reduceBEq, Nat.reduceBNe, Nat.reduceGT, Int.reduceAdd, Int.reduceSub, Int.reduceMul, Int.reduceNeg, Int.reduceLT, Int.reduceLE, Int.reduceEq, Int.reduceNe, Int.reduceBEq, Int.reduceBNe, Int.reduceToNat, Int.reduceGT, Int.reduceGE, ↓reduceIte, decide_true, decide_false, eq_self, Nat.mul_one, Nat.zero_mul, Nat.one_mul, Int.le_refl, Nat.le_refl, Int.cast_ofNat_Int, List.take_zero, List.all_nil, Bool.and_true]
      · have hfin : ∀ z : Bool, (B && (x.tab.take k).all (spannedB · (-600) 600)) = z → (z = false ∨ k = x.tab.length) → (B && x.tab.all (spannedB · (-600) 600)) = z := fun z h1 h2 => by
          rcases h2 with rfl | rfl
          · exact allStop _ h1
          · rw [List.take_length] at h1; exact h1
        rcases (Bool.eq_false_or_eq_true (B && (x.tab.take k).all (spannedB · (-600) 600))).symm with hb | hb
        · have hf := hfin _ hb (.inl rfl)
          simp (decide := true) (maxSteps := 4000000) only [go_sem, Nat.reduceAdd, Nat.reduceSub, Nat.reduceMul, Nat.reduceDiv, Nat.reduceMod, Nat.reduceLT, Nat.reduceLeDiff, Nat.reduceEqDiff, Nat.reduceBEq, Nat.reduceBNe, Nat.reduceGT, Int.reduceAdd, Int.reduceSub, Int.reduceMul, Int.reduceNeg, Int.reduceLT, Int.reduceLE, Int.reduceEq, Int.reduceNe, Int.reduceBEq, Int.reduceBNe, Int.reduceToNat, Int.reduceGT, Int.reduceGE, ↓reduceIte, decide_true, decide_false, eq_self, Nat.mul_one, Nat.zero_mul, Nat.one_mul, Int.le_refl, Nat.le_refl, Int.cast_ofNat_Int, hb, Bool.false_and, Sx.cs]
          refine hQ1 _ _ ?_
          simp (decide := true) (maxSteps := 4000000) only [go_sem, Nat.reduceAdd, Nat.reduceSub, Nat.reduceMul, Nat.reduceDiv, Nat.reduceMod, Nat.reduceLT, Nat.reduceLeDiff, Nat.reduceEqDiff, Nat.reduceBEq, Nat.reduceBNe, Nat.reduceGT, Int.reduceAdd, Int.reduceSub, Int.reduceMul, Int.reduceNeg, Int.reduceLT, Int.reduceLE, Int.reduceEq, Int.reduceNe, Int.reduceBEq, Int.reduceBNe, Int.reduceToNat, Int.reduceGT, Int.reduceGE, ↓reduceIte, decide_true, decide_false, eq_self, Nat.mul_one, Nat.zero_mul, Nat.one_mul, Int.le_refl, Nat.le_refl, Int.cast_ofNat_Int]
          have hsh : x.shade.all (spannedB · (-120) 120) = true := by rw [hS]; rfl
          rw [hf, hsh] at hok
          refine pwpC_loopU (A := Unit) [1] (fun _ => [(5, .t (.int .i64 0)), (3, .t (.bool false))]) (fun _ => []) (fun _ => 0) () (by decide) (fun _ => by rfl) ?_ fun Q2 hQ2 _ I2 hI2 => ?_
          · simp (decide := true) (maxSteps := 4000000) only [go_sem, Nat.reduceAdd, Nat.reduceSub, Nat.reduceMul, Nat.reduceDiv, Nat.reduceMod, Nat.reduceLT, Nat.reduceLeDiff, Nat.reduceEqDiff, Nat.reduceBEq, Nat.reduceBNe, Nat.reduceGT, Int.reduceAdd, Int.reduceSub, Int.reduceMul, Int.reduceNeg, Int.reduceLT, Int.reduceLE, Int.reduceEq, Int.reduceNe, Int.reduceBEq, Int.reduceBNe, Int.reduceToNat, Int.reduceGT, Int.reduceGE, ↓reduceIte, decide_true, decide_false, eq_self, Nat.mul_one, Nat.zero_mul, Nat.one_mul, Int.le_refl, Nat.le_refl, Int.cast_ofNat_Int, hb]
          · simp (decide := true) (maxSteps := 4000000) only [go_sem, Nat.reduceAdd, Nat.reduceSub, Nat.reduceMul, Nat.reduceDiv, Nat.reduceMod, Nat.reduceLT, Nat.reduceLeDiff, Nat.reduceEqDiff, Nat.reduceBEq, Nat.reduceBNe, Nat.reduceGT, Int.reduceAdd, Int.reduceSub, Int.reduceMul, Int.reduceNeg, Int.reduceLT, Int.reduceLE, Int.reduceEq, Int.reduceNe, Int.reduceBEq, Int.reduceBNe, Int.reduceToNat, Int.reduceGT, Int.reduceGE, ↓reduceIte, decide_true, decide_false, eq_self, Nat.mul_one, Nat.zero_mul, Nat.one_mul, Int.le_refl, Nat.le_refl, Int.cast_ofNat_Int, Bool.false_and, Bool.true_and, Sx.cs]
            refine hQ2 _ _ ?_
            simp (decide := true) (maxSteps := 4000000) only [go_sem, Nat.reduceAdd, Nat.reduceSub, Nat.reduceMul, Nat.reduceDiv, Nat.reduceMod, Nat.reduceLT, Nat.reduceLeDiff, Nat.reduceEqDiff, Nat.reduceBEq, Nat.reduceBNe, Nat.reduceGT, Int.reduceAdd, Int.reduceSub, Int.reduceMul, Int.reduceNeg, Int.reduceLT, Int.reduceLE, Int.reduceEq, Int.reduceNe, Int.reduceBEq, Int.reduceBNe, Int.reduceToNat, Int.reduceGT, Int.reduceGE, ↓reduceIte, decide_true, decide_false, eq_self, Nat.mul_one, Nat.zero_mul, Nat.one_mul, Int.le_refl, Nat.le_refl, Int.cast_ofNat_Int, hok, Bool.and_self]
        · by_cases hlt : (k : Int) < x.tab.length
          · obtain ⟨s, hs⟩ := get_lt hlt
            have hd := flat_at Span.cs (n := 2) (fun _ => rfl) hs
            have hc1 : IntKind.i64.wrap (k + 1) = ((k + 1 : Nat) : Int) := by rw [wrap_in (by omega) (by omega)]; omega
            have hnx := allTo (p := (spannedB · (-600) 600)) _ hs hb
            have es : Span.mk s.lo s.hi = s := rfl
            simp (decide := true) (maxSteps := 4000000) only [go_sem, Nat.reduceAdd, Nat.reduceSub, Nat.reduceMul, Nat.reduceDiv, Nat.reduceMod, Nat.reduceLT, Nat.reduceLeDiff, Nat.reduceEqDiff, Nat.reduceBEq, Nat.reduceBNe, Nat.reduceGT, Int.reduceAdd, Int.reduceSub, Int.reduceMul, Int.reduceNeg, Int.reduceLT, Int.reduceLE, Int.reduceEq, Int.reduceNe, Int.reduceBEq, Int.reduceBNe, Int.reduceToNat, Int.reduceGT, Int.reduceGE, ↓reduceIte, decide_true, decide_false, eq_self, Nat.mul_one, Nat.zero_mul, Nat.one_mul, Int.le_refl, Nat.le_refl, Int.cast_ofNat_Int, hb, hlt, Bool.true_and, Int.toNat_natCast, hd, Span.cs, es, Sx.cs]
            refine hI1 _ ⟨k + 1, by omega⟩ (by simp only; omega) ?_
            simp (decide := true) (maxSteps := 4000000) only [go_sem, Nat.reduceAdd, Nat.reduceSub, Nat.reduceMul, Nat.reduceDiv, Nat.reduceMod, Nat.reduceLT, Nat.reduceLeDiff, Nat.reduceEqDiff, Nat.reduceBEq, Nat.reduceBNe, Nat.reduceGT, Int.reduceAdd, Int.reduceSub, Int.reduceMul, Int.reduceNeg, Int.reduceLT, Int.reduceLE, Int.reduceEq, Int.reduceNe, Int.reduceBEq, Int.reduceBNe, Int.reduceToNat, Int.reduceGT, Int.reduceGE, ↓reduceIte, decide_true, decide_false, eq_self, Nat.mul_one, Nat.zero_mul, Nat.one_mul, Int.le_refl, Nat.le_refl, Int.cast_ofNat_Int, hc1, hnx, Sx.cs]
          · have hke : k = x.tab.length := by omega
            have hf := hfin _ hb (.inr hke)
            simp (decide := true) (maxSteps := 4000000) only [go_sem, Nat.reduceAdd, Nat.reduceSub, Nat.reduceMul, Nat.reduceDiv, Nat.reduceMod, Nat.reduceLT, Nat.reduceLeDiff, Nat.reduceEqDiff, Nat.reduceBEq, Nat.reduceBNe, Nat.reduceGT, Int.reduceAdd, Int.reduceSub, Int.reduceMul, Int.reduceNeg, Int.reduceLT, Int.reduceLE, Int.reduceEq, Int.reduceNe, Int.reduceBEq, Int.reduceBNe, Int.reduceToNat, Int.reduceGT, Int.reduceGE, ↓reduceIte, decide_true, decide_false, eq_self, Nat.mul_one, Nat.zero_mul, Nat.one_mul, Int.le_refl, Nat.le_refl, Int.cast_ofNat_Int, hb, hlt, Bool.true_and, Sx.cs]
            refine hQ1 _ _ ?_
            simp (decide := true) (maxSteps := 4000000) only [go_sem, Nat.reduceAdd, Nat.reduceSub, Nat.reduceMul, Nat.reduceDiv, Nat.reduceMod, Nat.reduceLT, Nat.reduceLeDiff, Nat.reduceEqDiff, Nat.reduceBEq, Nat.reduceBNe, Nat.reduceGT, Int.reduceAdd, Int.reduceSub, Int.reduceMul, Int.reduceNeg, Int.reduceLT, Int.reduceLE, Int.reduceEq, Int.reduceNe, Int.reduceBEq, Int.reduceBNe, Int.reduceToNat, Int.reduceGT, Int.reduceGE, ↓reduceIte, decide_true, decide_false, eq_self, Nat.mul_one, Nat.zero_mul, Nat.one_mul, Int.le_refl, Nat.le_refl, Int.cast_ofNat_Int]
            have hsh : x.shade.all (spannedB · (-120) 120) = true := by rw [hS]; rfl
            rw [hf, hsh] at hok
            refine pwpC_loopU (A := Unit) [1] (fun _ => [(5, .t (.int .i64 0)), (3, .t (.bool true))]) (fun _ => []) (fun _ => 0) () (by decide) (fun _ => by rfl) ?_ fun Q2 hQ2 _ I2 hI2 => ?_
            · simp (decide := true) (maxSteps := 4000000) only [go_sem, Nat.reduceAdd, Nat.reduceSub, Nat.reduceMul, Nat.reduceDiv, Nat.reduceMod, Nat.reduceLT, Nat.reduceLeDiff, Nat.reduceEqDiff, Nat.reduceBEq, Nat.reduceBNe, Nat.reduceGT, Int.reduceAdd, Int.reduceSub, Int.reduceMul, Int.reduceNeg, Int.reduceLT, Int.reduceLE, Int.reduceEq, Int.reduceNe, Int.reduceBEq, Int.reduceBNe, Int.reduceToNat, Int.reduceGT, Int.reduceGE, ↓reduceIte, decide_true, decide_false, eq_self, Nat.mul_one, Nat.zero_mul, Nat.one_mul, Int.le_refl, Nat.le_refl, Int.cast_ofNat_Int, hb]
            · simp (decide := true) (maxSteps := 4000000) only [go_sem, Nat.reduceAdd, Nat.reduceSub, Nat.reduceMul, Nat.reduceDiv, Nat.reduceMod, Nat.reduceLT, Nat.reduceLeDiff, Nat.reduceEqDiff, Nat.reduceBEq, Nat.reduceBNe, Nat.reduceGT, Int.reduceAdd, Int.reduceSub, Int.reduceMul, Int.reduceNeg, Int.reduceLT, Int.reduceLE, Int.reduceEq, Int.reduceNe, Int.reduceBEq, Int.reduceBNe, Int.reduceToNat, Int.reduceGT, Int.reduceGE, ↓reduceIte, decide_true, decide_false, eq_self, Nat.mul_one, Nat.zero_mul, Nat.one_mul, Int.le_refl, Nat.le_refl, Int.cast_ofNat_Int, Bool.false_and, Bool.true_and, Sx.cs]
              refine hQ2 _ _ ?_
              simp (decide := true) (maxSteps := 4000000) only [go_sem, Nat.reduceAdd, Nat.reduceSub, Nat.reduceMul, Nat.reduceDiv, Nat.reduceMod, Nat.reduceLT, Nat.reduceLeDiff, Nat.reduceEqDiff, Nat.reduceBEq, Nat.reduceBNe, Nat.reduceGT, Int.reduceAdd, Int.reduceSub, Int.reduceMul, Int.reduceNeg, Int.reduceLT, Int.reduceLE, Int.reduceEq, Int.reduceNe, Int.reduceBEq, Int.reduceBNe, Int.reduceToNat, Int.reduceGT, Int.reduceGE, ↓reduceIte, decide_true, decide_false, eq_self, Nat.mul_one, Nat.zero_mul, Nat.one_mul, Int.le_refl, Nat.le_refl, Int.cast_ofNat_Int, hok, Bool.and_self]
    · simp (decide := true) (maxSteps := 4000000) only [go_sem, Nat.reduceAdd, Nat.reduceSub, Nat.reduceMul, Nat.reduceDiv, Nat.reduceMod, Nat.reduceLT, Nat.reduceLeDiff, Nat.reduceEqDiff, Nat.reduceBEq, Nat.reduceBNe, Nat.reduceGT, Int.reduceAdd, Int.reduceSub, Int.reduceMul, Int.reduceNeg, Int.reduceLT, Int.reduceLE, Int.reduceEq, Int.reduceNe, Int.reduceBEq, Int.reduceBNe, Int.reduceToNat, Int.reduceGT, Int.reduceGE, ↓reduceIte, decide_true, decide_false, eq_self, Nat.mul_one, Nat.zero_mul, Nat.one_mul, Int.le_refl, Nat.le_refl, Int.cast_ofNat_Int, Try.f18, Sx.t, Sx.cs, rT, rS, unS_eq, ei, lT, lS, and6, hB]
      refine pwpC_loopU (A := { k : Nat // k ≤ x.tab.length }) [1] (fun k => [(4, .t (.int .i64 k.1)), (3, .t (.bool (B && (x.tab.take k.1).all (spannedB · (-600) 600))))]) (fun _ => []) (fun k => x.tab.length - k.1) ⟨0, by omega⟩ (by decide) (fun _ => by rfl) ?_ fun Q1 hQ1 ⟨k, hk⟩ I1 hI1 => ?_
      · simp (decide := true) (maxSteps := 4000000) only [go_sem, Nat.reduceAdd, Nat.reduceSub, Nat.reduceMul, Nat.reduceDiv, Nat.reduceMod, Nat.reduceLT, Nat.reduceLeDiff, Nat.reduceEqDiff, Nat.reduceBEq, Nat.reduceBNe, Nat.reduceGT, Int.reduceAdd, Int.reduceSub, Int.reduceMul, Int.reduceNeg, Int.reduceLT, Int.reduceLE, Int.reduceEq, Int.reduceNe, Int.reduceBEq, Int.reduceBNe, Int.reduceToNat, Int.reduceGT, Int.reduceGE, ↓reduceIte, decide_true, decide_false, eq_self, Nat.mul_one, Nat.zero_mul, Nat.one_mul, Int.le_refl, Nat.le_refl, Int.cast_ofNat_Int, List.take_zero, List.all_nil, Bool.and_true]
      · have hfin : ∀ z : Bool, (B && (x.tab.take k).all (spannedB · (-600) 600)) = z → (z = false ∨ k = x.tab.length) → (B && x.tab.all (spannedB · (-600) 600)) = z := fun z h1 h2 => by
          rcases h2 with rfl | rfl
          · exact allStop _ h1
          · rw [List.take_length] at h1; exact h1
        rcases (Bool.eq_false_or_eq_true (B && (x.tab.take k).all (spannedB · (-600) 600))).symm with hb | hb
        · have hf := hfin _ hb (.inl rfl)
          simp (decide := true) (maxSteps := 4000000) only [go_sem, Nat.reduceAdd, Nat.reduceSub, Nat.reduceMul, Nat.reduceDiv, Nat.reduceMod, Nat.reduceLT, Nat.reduceLeDiff, Nat.reduceEqDiff, Nat.reduceBEq, Nat.reduceBNe, Nat.reduceGT, Int.reduceAdd, Int.reduceSub, Int.reduceMul, Int.reduceNeg, Int.reduceLT, Int.reduceLE, Int.reduceEq, Int.reduceNe, Int.reduceBEq, Int.reduceBNe, Int.reduceToNat, Int.reduceGT, Int.reduceGE, ↓reduceIte, decide_true, decide_false, eq_self, Nat.mul_one, Nat.zero_mul, Nat.one_mul, Int.le_refl, Nat.le_refl, Int.cast_ofNat_Int, hb, Bool.false_and, Sx.cs]
          refine hQ1 _ _ ?_
          simp (decide := true) (maxSteps := 4000000) only [go_sem, Nat.reduceAdd, Nat.reduceSub, Nat.reduceMul, Nat.reduceDiv, Nat.reduceMod, Nat.reduceLT, Nat.reduceLeDiff, Nat.reduceEqDiff, Nat.reduceBEq, Nat.reduceBNe, Nat.reduceGT, Int.reduceAdd, Int.reduceSub, Int.reduceMul, Int.reduceNeg, Int.reduceLT, Int.reduceLE, Int.reduceEq, Int.reduceNe, Int.reduceBEq, Int.reduceBNe, Int.reduceToNat, Int.reduceGT, Int.reduceGE, ↓reduceIte, decide_true, decide_false, eq_self, Nat.mul_one, Nat.zero_mul, Nat.one_mul, Int.le_refl, Nat.le_refl, Int.cast_ofNat_Int]
          rw [hf] at hok
          refine pwpC_loopU (A := { k : Nat // k ≤ x.shade.length }) [1] (fun k => [(5, .t (.int .i64 k.1)), (3, .t (.bool (false && (x.shade.take k.1).all (spannedB · (-120) 120))))]) (fun _ => []) (fun k => x.shade.length - k.1) ⟨0, by omega⟩ (by decide) (fun _ => by rfl) ?_ fun Q2 hQ2 ⟨k, hk⟩ I2 hI2 => ?_
          · simp (decide := true) (maxSteps := 4000000) only [go_sem, Nat.reduceAdd, Nat.reduceSub, Nat.reduceMul, Nat.reduceDiv, Nat.reduceMod, Nat.reduceLT, Nat.reduceLeDiff, Nat.reduceEqDiff, Nat.reduceBEq, Nat.reduceBNe, Nat.reduceGT, Int.reduceAdd, Int.reduceSub, Int.reduceMul, Int.reduceNeg, Int.reduceLT, Int.reduceLE, Int.reduceEq, Int.reduceNe, Int.reduceBEq, Int.reduceBNe, Int.reduceToNat, Int.reduceGT, Int.reduceGE, ↓reduceIte, decide_true, decide_false, eq_self, Nat.mul_one, Nat.zero_mul, Nat.one_mul, Int.le_refl, Nat.le_refl, Int.cast_ofNat_Int, hb, List.take_zero, List.all_nil, Bool.and_true]
          · have hfin : ∀ z : Bool, (false && (x.shade.take k).all (spannedB · (-120) 120)) = z → (z = false ∨ k = x.shade.length) → (false && x.shade.all (spannedB · (-120) 120)) = z := fun z h1 h2 => by
              rcases h2 with rfl | rfl
              · exact allStop _ h1
              · rw [List.take_length] at h1; exact h1
            rcases (Bool.eq_false_or_eq_true (false && (x.shade.take k).all (spannedB · (-120) 120))).symm with hb | hb
            · have hf := hfin _ hb (.inl rfl)
              simp (decide := true) (maxSteps := 4000000) only [go_sem, Nat.reduceAdd, Nat.reduceSub, Nat.reduceMul, Nat.reduceDiv, Nat.reduceMod, Nat.reduceLT, Nat.reduceLeDiff, Nat.reduceEqDiff, Nat.reduceBEq, Nat.reduceBNe, Nat.reduceGT, Int.reduceAdd, Int.reduceSub, Int.reduceMul, Int.reduceNeg, Int.reduceLT, Int.reduceLE, Int.reduceEq, Int.reduceNe, Int.reduceBEq, Int.reduceBNe, Int.reduceToNat, Int.reduceGT, Int.reduceGE, ↓reduceIte, decide_true, decide_false, eq_self, Nat.mul_one, Nat.zero_mul, Nat.one_mul, Int.le_refl, Nat.le_refl, Int.cast_ofNat_Int, hb, Bool.false_and, Sx.cs]
              refine hQ2 _ _ ?_
              simp (decide := true) (maxSteps := 4000000) only [go_sem, Nat.reduceAdd, Nat.reduceSub, Nat.reduceMul, Nat.reduceDiv, Nat.reduceMod, Nat.reduceLT, Nat.reduceLeDiff, Nat.reduceEqDiff, Nat.reduceBEq, Nat.reduceBNe, Nat.reduceGT, Int.reduceAdd, Int.reduceSub, Int.reduceMul, Int.reduceNeg, Int.reduceLT, Int.reduceLE, Int.reduceEq, Int.reduceNe, Int.reduceBEq, Int.reduceBNe, Int.reduceToNat, Int.reduceGT, Int.reduceGE, ↓reduceIte, decide_true, decide_false, eq_self, Nat.mul_one, Nat.zero_mul, Nat.one_mul, Int.le_refl, Nat.le_refl, Int.cast_ofNat_Int]
              rw [hf] at hok
              simp (decide := true) (maxSteps := 4000000) only [go_sem, Nat.reduceAdd, Nat.reduceSub, Nat.reduceMul, Nat.reduceDiv, Nat.reduceMod, Nat.reduceLT, Nat.reduceLeDiff, Nat.reduceEqDiff, Nat.reduceBEq, Nat.reduceBNe, Nat.reduceGT, Int.reduceAdd, Int.reduceSub, Int.reduceMul, Int.reduceNeg, Int.reduceLT, Int.reduceLE, Int.reduceEq, Int.reduceNe, Int.reduceBEq, Int.reduceBNe, Int.reduceToNat, Int.reduceGT, Int.reduceGE, ↓reduceIte, decide_true, decide_false, eq_self, Nat.mul_one, Nat.zero_mul, Nat.one_mul, Int.le_refl, Nat.le_refl, Int.cast_ofNat_Int, hok]
            · by_cases hlt : (k : Int) < x.shade.length
              · obtain ⟨s, hs⟩ := get_lt hlt
                have hd := flat_at Span.cs (n := 2) (fun _ => rfl) hs
                have hc1 : IntKind.i64.wrap (k + 1) = ((k + 1 : Nat) : Int) := by rw [wrap_in (by omega) (by omega)]; omega
                have hnx := allTo (p := (spannedB · (-120) 120)) _ hs hb
                have es : Span.mk s.lo s.hi = s := rfl
                simp (decide := true) (maxSteps := 4000000) only [go_sem, Nat.reduceAdd, Nat.reduceSub, Nat.reduceMul, Nat.reduceDiv, Nat.reduceMod, Nat.reduceLT, Nat.reduceLeDiff, Nat.reduceEqDiff, Nat.reduceBEq, Nat.reduceBNe, Nat.reduceGT, Int.reduceAdd, Int.reduceSub, Int.reduceMul, Int.reduceNeg, Int.reduceLT, Int.reduceLE, Int.reduceEq, Int.reduceNe, Int.reduceBEq, Int.reduceBNe, Int.reduceToNat, Int.reduceGT, Int.reduceGE, ↓reduceIte, decide_true, decide_false, eq_self, Nat.mul_one, Nat.zero_mul, Nat.one_mul, Int.le_refl, Nat.le_refl, Int.cast_ofNat_Int, hb, hlt, Bool.true_and, Int.toNat_natCast, hd, Span.cs, es, Sx.cs]
                refine hI2 _ ⟨k + 1, by omega⟩ (by simp only; omega) ?_
                simp (decide := true) (maxSteps := 4000000) only [go_sem, Nat.reduceAdd, Nat.reduceSub, Nat.reduceMul, Nat.reduceDiv, Nat.reduceMod, Nat.reduceLT, Nat.reduceLeDiff, Nat.reduceEqDiff, Nat.reduceBEq, Nat.reduceBNe, Nat.reduceGT, Int.reduceAdd, Int.reduceSub, Int.reduceMul, Int.reduceNeg, Int.reduceLT, Int.reduceLE, Int.reduceEq, Int.reduceNe, Int.reduceBEq, Int.reduceBNe, Int.reduceToNat, Int.reduceGT, Int.reduceGE, ↓reduceIte, decide_true, decide_false, eq_self, Nat.mul_one, Nat.zero_mul, Nat.one_mul, Int.le_refl, Nat.le_refl, Int.cast_ofNat_Int, hc1, hnx, Sx.cs]
              · have hke : k = x.shade.length := by omega
                have hf := hfin _ hb (.inr hke)
                simp (decide := true) (maxSteps := 4000000) only [go_sem, Nat.reduceAdd, Nat.reduceSub, Nat.reduceMul, Nat.reduceDiv, Nat.reduceMod, Nat.reduceLT, Nat.reduceLeDiff, Nat.reduceEqDiff, Nat.reduceBEq, Nat.reduceBNe, Nat.reduceGT, Int.reduceAdd, Int.reduceSub, Int.reduceMul, Int.reduceNeg, Int.reduceLT, Int.reduceLE, Int.reduceEq, Int.reduceNe, Int.reduceBEq, Int.reduceBNe, Int.reduceToNat, Int.reduceGT, Int.reduceGE, ↓reduceIte, decide_true, decide_false, eq_self, Nat.mul_one, Nat.zero_mul, Nat.one_mul, Int.le_refl, Nat.le_refl, Int.cast_ofNat_Int, hb, hlt, Bool.true_and, Sx.cs]
                refine hQ2 _ _ ?_
                simp (decide := true) (maxSteps := 4000000) only [go_sem, Nat.reduceAdd, Nat.reduceSub, Nat.reduceMul, Nat.reduceDiv, Nat.reduceMod, Nat.reduceLT, Nat.reduceLeDiff, Nat.reduceEqDiff, Nat.reduceBEq, Nat.reduceBNe, Nat.reduceGT, Int.reduceAdd, Int.reduceSub, Int.reduceMul, Int.reduceNeg, Int.reduceLT, Int.reduceLE, Int.reduceEq, Int.reduceNe, Int.reduceBEq, Int.reduceBNe, Int.reduceToNat, Int.reduceGT, Int.reduceGE, ↓reduceIte, decide_true, decide_false, eq_self, Nat.mul_one, Nat.zero_mul, Nat.one_mul, Int.le_refl, Nat.le_refl, Int.cast_ofNat_Int]
                rw [hf] at hok
                simp (decide := true) (maxSteps := 4000000) only [go_sem, Nat.reduceAdd, Nat.reduceSub, Nat.reduceMul, Nat.reduceDiv, Nat.reduceMod, Nat.reduceLT, Nat.reduceLeDiff, Nat.reduceEqDiff, Nat.reduceBEq, Nat.reduceBNe, Nat.reduceGT, Int.reduceAdd, Int.reduceSub, Int.reduceMul, Int.reduceNeg, Int.reduceLT, Int.reduceLE, Int.reduceEq, Int.reduceNe, Int.reduceBEq, Int.reduceBNe, Int.reduceToNat, Int.reduceGT, Int.reduceGE, ↓reduceIte, decide_true, decide_false, eq_self, Nat.mul_one, Nat.zero_mul, Nat.one_mul, Int.le_refl, Nat.le_refl, Int.cast_ofNat_Int, hok]
        · by_cases hlt : (k : Int) < x.tab.length
          · obtain ⟨s, hs⟩ := get_lt hlt
            have hd := flat_at Span.cs (n := 2) (fun _ => rfl) hs
            have hc1 : IntKind.i64.wrap (k + 1) = ((k + 1 : Nat) : Int) := by rw [wrap_in (by omega) (by omega)]; omega
            have hnx := allTo (p := (spannedB · (-600) 600)) _ hs hb
            have es : Span.mk s.lo s.hi = s := rfl
            simp (decide := true) (maxSteps := 4000000) only [go_sem, Nat.reduceAdd, Nat.reduceSub, Nat.reduceMul, Nat.reduceDiv, Nat.reduceMod, Nat.reduceLT, Nat.reduceLeDiff, Nat.reduceEqDiff, Nat.reduceBEq, Nat.reduceBNe, Nat.reduceGT, Int.reduceAdd, Int.reduceSub, Int.reduceMul, Int.reduceNeg, Int.reduceLT, Int.reduceLE, Int.reduceEq, Int.reduceNe, Int.reduceBEq, Int.reduceBNe, Int.reduceToNat, Int.reduceGT, Int.reduceGE, ↓reduceIte, decide_true, decide_false, eq_self, Nat.mul_one, Nat.zero_mul, Nat.one_mul, Int.le_refl, Nat.le_refl, Int.cast_ofNat_Int, hb, hlt, Bool.true_and, Int.toNat_natCast, hd, Span.cs, es, Sx.cs]
            refine hI1 _ ⟨k + 1, by omega⟩ (by simp only; omega) ?_
            simp (decide := true) (maxSteps := 4000000) only [go_sem, Nat.reduceAdd, Nat.reduceSub, Nat.reduceMul, Nat.reduceDiv, Nat.reduceMod, Nat.reduceLT, Nat.reduceLeDiff, Nat.reduceEqDiff, Nat.reduceBEq, Nat.reduceBNe, Nat.reduceGT, Int.reduceAdd, Int.reduceSub, Int.reduceMul, Int.reduceNeg, Int.reduceLT, Int.reduceLE, Int.reduceEq, Int.reduceNe, Int.reduceBEq, Int.reduceBNe, Int.reduceToNat, Int.reduceGT, Int.reduceGE, ↓reduceIte, decide_true, decide_false, eq_self, Nat.mul_one, Nat.zero_mul, Nat.one_mul, Int.le_refl, Nat.le_refl, Int.cast_ofNat_Int, hc1, hnx, Sx.cs]
          · have hke : k = x.tab.length := by omega
            have hf := hfin _ hb (.inr hke)
            simp (decide := true) (maxSteps := 4000000) only [go_sem, Nat.reduceAdd, Nat.reduceSub, Nat.reduceMul, Nat.reduceDiv, Nat.reduceMod, Nat.reduceLT, Nat.reduceLeDiff, Nat.reduceEqDiff, Nat.reduceBEq, Nat.reduceBNe, Nat.reduceGT, Int.reduceAdd, Int.reduceSub, Int.reduceMul, Int.reduceNeg, Int.reduceLT, Int.reduceLE, Int.reduceEq, Int.reduceNe, Int.reduceBEq, Int.reduceBNe, Int.reduceToNat, Int.reduceGT, Int.reduceGE, ↓reduceIte, decide_true, decide_false, eq_self, Nat.mul_one, Nat.zero_mul, Nat.one_mul, Int.le_refl, Nat.le_refl, Int.cast_ofNat_Int, hb, hlt, Bool.true_and, Sx.cs]
            refine hQ1 _ _ ?_
            simp (decide := true) (maxSteps := 4000000) only [go_sem, Nat.reduceAdd, Nat.reduceSub, Nat.reduceMul, Nat.reduceDiv, Nat.reduceMod, Nat.reduceLT, Nat.reduceLeDiff, Nat.reduceEqDiff, Nat.reduceBEq, Nat.reduceBNe, Nat.reduceGT, Int.reduceAdd, Int.reduceSub, Int.reduceMul, Int.reduceNeg, Int.reduceLT, Int.reduceLE, Int.reduceEq, Int.reduceNe, Int.reduceBEq, Int.reduceBNe, Int.reduceToNat, Int.reduceGT, Int.reduceGE, ↓reduceIte, decide_true, decide_false, eq_self, Nat.mul_one, Nat.zero_mul, Nat.one_mul, Int.le_refl, Nat.le_refl, Int.cast_ofNat_Int]
            rw [hf] at hok
            refine pwpC_loopU (A := { k : Nat // k ≤ x.shade.length }) [1] (fun k => [(5, .t (.int .i64 k.1)), (3, .t (.bool (true && (x.shade.take k.1).all (spannedB · (-120) 120))))]) (fun _ => []) (fun k => x.shade.length - k.1) ⟨0, by omega⟩ (by decide) (fun _ => by rfl) ?_ fun Q2 hQ2 ⟨k, hk⟩ I2 hI2 => ?_
            · simp (decide := true) (maxSteps := 4000000) only [go_sem, Nat.reduceAdd, Nat.reduceSub, Nat.reduceMul, Nat.reduceDiv, Nat.reduceMod, Nat.reduceLT, Nat.reduceLeDiff, Nat.reduceEqDiff, Nat.reduceBEq, Nat.reduceBNe, Nat.reduceGT, Int.reduceAdd, Int.reduceSub, Int.reduceMul, Int.reduceNeg, Int.reduceLT, Int.reduceLE, Int.reduceEq, Int.reduceNe, Int.reduceBEq, Int.reduceBNe, Int.reduceToNat, Int.reduceGT, Int.reduceGE, ↓reduceIte, decide_true, decide_false, eq_self, Nat.mul_one, Nat.zero_mul, Nat.one_mul, Int.le_refl, Nat.le_refl, Int.cast_ofNat_Int, hb, List.take_zero, List.all_nil, Bool.and_true]
            · have hfin : ∀ z : Bool, (true && (x.shade.take k).all (spannedB · (-120) 120)) = z → (z = false ∨ k = x.shade.length) → (true && x.shade.all (spannedB · (-120) 120)) = z := fun z h1 h2 => by
                rcases h2 with rfl | rfl
                · exact allStop _ h1
                · rw [List.take_length] at h1; exact h1
              rcases (Bool.eq_false_or_eq_true (true && (x.shade.take k).all (spannedB · (-120) 120))).symm with hb | hb
              · have hf := hfin _ hb (.inl rfl)
                simp (decide := true) (maxSteps := 4000000) only [go_sem, Nat.reduceAdd, Nat.reduceSub, Nat.reduceMul, Nat.reduceDiv, Nat.reduceMod, Nat.reduceLT, Nat.reduceLeDiff, Nat.reduceEqDiff, Nat.reduceBEq, Nat.reduceBNe, Nat.reduceGT, Int.reduceAdd, Int.reduceSub, Int.reduceMul, Int.reduceNeg, Int.reduceLT, Int.reduceLE, Int.reduceEq, Int.reduceNe, Int.reduceBEq, Int.reduceBNe, Int.reduceToNat, Int.reduceGT, Int.reduceGE, ↓reduceIte, decide_true, decide_false, eq_self, Nat.mul_one, Nat.zero_mul, Nat.one_mul, Int.le_refl, Nat.le_refl, Int.cast_ofNat_Int, hb, Bool.false_and, Sx.cs]
                refine hQ2 _ _ ?_
                simp (decide := true) (maxSteps := 4000000) only [go_sem, Nat.reduceAdd, Nat.reduceSub, Nat.reduceMul, Nat.reduceDiv, Nat.reduceMod, Nat.reduceLT, Nat.reduceLeDiff, Nat.reduceEqDiff, Nat.reduceBEq, Nat.reduceBNe, Nat.reduceGT, Int.reduceAdd, Int.reduceSub, Int.reduceMul, Int.reduceNeg, Int.reduceLT, Int.reduceLE, Int.reduceEq, Int.reduceNe, Int.reduceBEq, Int.reduceBNe, Int.reduceToNat, Int.reduceGT, Int.reduceGE, ↓reduceIte, decide_true, decide_false, eq_self, Nat.mul_one, Nat.zero_mul, Nat.one_mul, Int.le_refl, Nat.le_refl, Int.cast_ofNat_Int]
                rw [hf] at hok
                simp (decide := true) (maxSteps := 4000000) only [go_sem, Nat.reduceAdd, Nat.reduceSub, Nat.reduceMul, Nat.reduceDiv, Nat.reduceMod, Nat.reduceLT, Nat.reduceLeDiff, Nat.reduceEqDiff, Nat.reduceBEq, Nat.reduceBNe, Nat.reduceGT, Int.reduceAdd, Int.reduceSub, Int.reduceMul, Int.reduceNeg, Int.reduceLT, Int.reduceLE, Int.reduceEq, Int.reduceNe, Int.reduceBEq, Int.reduceBNe, Int.reduceToNat, Int.reduceGT, Int.reduceGE, ↓reduceIte, decide_true, decide_false, eq_self, Nat.mul_one, Nat.zero_mul, Nat.one_mul, Int.le_refl, Nat.le_refl, Int.cast_ofNat_Int, hok]
              · by_cases hlt : (k : Int) < x.shade.length
                · obtain ⟨s, hs⟩ := get_lt hlt
                  have hd := flat_at Span.cs (n := 2) (fun _ => rfl) hs
                  have hc1 : IntKind.i64.wrap (k + 1) = ((k + 1 : Nat) : Int) := by rw [wrap_in (by omega) (by omega)]; omega
                  have hnx := allTo (p := (spannedB · (-120) 120)) _ hs hb
                  have es : Span.mk s.lo s.hi = s := rfl
                  simp (decide := true) (maxSteps := 4000000) only [go_sem, Nat.reduceAdd, Nat.reduceSub, Nat.reduceMul, Nat.reduceDiv, Nat.reduceMod, Nat.reduceLT, Nat.reduceLeDiff, Nat.reduceEqDiff, Nat.reduceBEq, Nat.reduceBNe, Nat.reduceGT, Int.reduceAdd, Int.reduceSub, Int.reduceMul, Int.reduceNeg, Int.reduceLT, Int.reduceLE, Int.reduceEq, Int.reduceNe, Int.reduceBEq, Int.reduceBNe, Int.reduceToNat, Int.reduceGT, Int.reduceGE, ↓reduceIte, decide_true, decide_false, eq_self, Nat.mul_one, Nat.zero_mul, Nat.one_mul, Int.le_refl, Nat.le_refl, Int.cast_ofNat_Int, hb, hlt, Bool.true_and, Int.toNat_natCast, hd, Span.cs, es, Sx.cs]
                  refine hI2 _ ⟨k + 1, by omega⟩ (by simp only; omega) ?_
                  simp (decide := true) (maxSteps := 4000000) only [go_sem, Nat.reduceAdd, Nat.reduceSub, Nat.reduceMul, Nat.reduceDiv, Nat.reduceMod, Nat.reduceLT, Nat.reduceLeDiff, Nat.reduceEqDiff, Nat.reduceBEq, Nat.reduceBNe, Nat.reduceGT, Int.reduceAdd, Int.reduceSub, Int.reduceMul, Int.reduceNeg, Int.reduceLT, Int.reduceLE, Int.reduceEq, Int.reduceNe, Int.reduceBEq, Int.reduceBNe, Int.reduceToNat, Int.reduceGT, Int.reduceGE, ↓reduceIte, decide_true, decide_false, eq_self, Nat.mul_one, Nat.zero_mul, Nat.one_mul, Int.le_refl, Nat.le_refl, Int.cast_ofNat_Int, hc1, hnx, Sx.cs]
                · have hke : k = x.shade.length := by omega
                  have hf := hfin _ hb (.inr hke)
                  simp (decide := true) (maxSteps := 4000000) only [go_sem, Nat.reduceAdd, Nat.reduceSub, Nat.reduceMul, Nat.reduceDiv, Nat.reduceMod, Nat.reduceLT, Nat.reduceLeDiff, Nat.reduceEqDiff, Nat.reduceBEq, Nat.reduceBNe, Nat.reduceGT, Int.reduceAdd, Int.reduceSub, Int.reduceMul, Int.reduceNeg, Int.reduceLT, Int.reduceLE, Int.reduceEq, Int.reduceNe, Int.reduceBEq, Int.reduceBNe, Int.reduceToNat, Int.reduceGT, Int.reduceGE, ↓reduceIte, decide_true, decide_false, eq_self, Nat.mul_one, Nat.zero_mul, Nat.one_mul, Int.le_refl, Nat.le_refl, Int.cast_ofNat_Int, hb, hlt, Bool.true_and, Sx.cs]
                  refine hQ2 _ _ ?_
                  simp (decide := true) (maxSteps := 4000000) only [go_sem, Nat.reduceAdd, Nat.reduceSub, Nat.reduceMul, Nat.reduceDiv, Nat.reduceMod, Nat.reduceLT, Nat.reduceLeDiff, Nat.reduceEqDiff, Nat.reduceBEq, Nat.reduceBNe, Nat.reduceGT, Int.reduceAdd, Int.reduceSub, Int.reduceMul, Int.reduceNeg, Int.reduceLT, Int.reduceLE, Int.reduceEq, Int.reduceNe, Int.reduceBEq, Int.reduceBNe, Int.reduceToNat, Int.reduceGT, Int.reduceGE, ↓reduceIte, decide_true, decide_false, eq_self, Nat.mul_one, Nat.zero_mul, Nat.one_mul, Int.le_refl, Nat.le_refl, Int.cast_ofNat_Int]
                  rw [hf] at hok
                  simp (decide := true) (maxSteps := 4000000) only [go_sem, Nat.reduceAdd, Nat.reduceSub, Nat.reduceMul, Nat.reduceDiv, Nat.reduceMod, Nat.reduceLT, Nat.reduceLeDiff, Nat.reduceEqDiff, Nat.reduceBEq, Nat.reduceBNe, Nat.reduceGT, Int.reduceAdd, Int.reduceSub, Int.reduceMul, Int.reduceNeg, Int.reduceLT, Int.reduceLE, Int.reduceEq, Int.reduceNe, Int.reduceBEq, Int.reduceBNe, Int.reduceToNat, Int.reduceGT, Int.reduceGE, ↓reduceIte, decide_true, decide_false, eq_self, Nat.mul_one, Nat.zero_mul, Nat.one_mul, Int.le_refl, Nat.le_refl, Int.cast_ofNat_Int, hok]
noncomputable def rxCheck : List TV → Option TV
  | [.agg [.int .i64 a0, sT, .int .i64 a1, .int .i64 a2, .int .i64 a3, sS]] => match rowL unS sT, rowL unS sS with
    | some tab, some shade => if tab.length ≤ 9000000000000 ∧ shade.length ≤ 9000000000000 then some (.int .i64 (if sxOk (⟨a0, tab, ⟨a1, a2⟩, a3, shade⟩ : Sx) then 0 else 50)) else none
    | _, _ => none
  | _ => none
theorem rxCheck_ok : ∀ xs r, rxCheck xs = some r → PCalls Try.prog 18 xs r := by
  intro xs r h
  unfold rxCheck at h
  split at h
  · split at h
    · rename_i tab shade hT hS
      have hT := rowL_some (un := unS) unS_nil (@unS_some) hT
      have hS := rowL_some (un := unS) unS_nil (@unS_some) hS
      split at h
      · rename_i hc; cases h; exact rCheck_c ⟨_, tab, ⟨_, _⟩, _, shade⟩ hT hS hc.1 hc.2
      · cases h
    · cases h
  · cases h
attribute [go_sem] rxCheck
end Go.Proofs.Ytjmkccckohcfkaa

/- Part Rb. -/
namespace Go.Os
open Go Go.Pm Go.Oc Go.Oh
theorem last_wr {x : Sx} (h : GoodS x) : IntKind.i64.wrap (x.step * IntKind.i64.wrap (x.tab.length - 1)) = last x := by
  have hb := last_b h
  have hl := h.len
  rw [wrap_in (n := (x.tab.length : Int) - 1) (by omega) (by omega)]
  exact wrap_in (show _ ≤ last x by omega) (show last x ≤ _ by omega)
end Go.Os
namespace Go.Proofs.Ytjmkccckohcfkaa
open Go.RowKit Go.Pm Go.Oc Go.Oh Go.Os
set_option maxRecDepth 100000
set_option linter.unusedVariables false
set_option maxHeartbeats 4000000

theorem rIsReading_c (x : Sx) {sT sS : TV} (hT : IsRow Span.cs sT x.tab) (hS : IsRow Span.cs sS x.shade) (hv : sxOk x = true) (a s : Int) : PCalls Try.prog 57 [x.t sT sS, .agg [.int .i64 a, .int .i64 s]] (.bool (isRd x a s)) := by
  have h := sxOk_iff.1 hv
  have hp := pow_len h.sh
  have hlw := last_wr h
  have rT := rowS_is hT
  have rS := rowS_is hS
  unfold rowL at rT rS
  simp only [unS_nil] at rT rS
  have hr : isRd x a s = (inB a 0 (last x) && inB s 0 (2 ^ x.shade.length - 1)) := rfl
  have h6 := h.sh
  obtain ⟨P2, hP2⟩ : ∃ P2 : Int, (2 : Int) ^ x.shade.length = P2 := ⟨_, rfl⟩
  have hsh : IntKind.i64.wrap (1 * 2 ^ min x.shade.length 64) = P2 := by rw [Nat.min_eq_left (by omega), Int.one_mul, hP2, wrap_in (by omega) (by omega)]
  have w1 : IntKind.i64.wrap (P2 - 1) = P2 - 1 := wrap_in (by omega) (by omega)
  rw [hP2] at hr
  have hl0 : ¬ (x.shade.length : Int) < 0 := by omega
  refine pcalls_by Try.mixes spRx_ok (fn := Try.f57) Try.func57 rfl (by kernel_rfl) (by show 2 ≤ _; decide) ?_
  rw [hr]
  rcases hS with ⟨rfl, hS⟩ | ⟨f', rfl⟩
  · have e1 : P2 = 1 := by rw [← hP2, hS]; rfl
    rw [e1]
    have w0 : IntKind.i64.wrap (1 * 2 ^ min 0 64) = 1 := rfl
    have w0' : IntKind.i64.wrap 0 = 0 := rfl
    simp (decide := true) (maxSteps := 4000000) only [go_sem, Nat.reduceAdd, Nat.reduceSub, Nat.reduceMul, Nat.reduceDiv, Nat.reduceMod, Nat.reduceLT, Nat.reduceLeDiff, Nat.reduceEqDiff, Nat.reduceBEq, Nat.reduceBNe, Nat.reduceGT, Int.reduceAdd, Int.reduceSub, Int.reduceMul, Int.reduceNeg, Int.reduceLT, Int.reduceLE, Int.reduceEq, Int.reduceNe, Int.reduceBEq, Int.reduceBNe, Int.reduceToNat, Int.reduceGT, Int.reduceGE, ↓reduceIte, decide_true, decide_false, eq_self, Nat.mul_one, Nat.zero_mul, Nat.one_mul, Int.le_refl, Nat.le_refl, Int.cast_ofNat_Int, Try.f57, Sx.t, Sx.cs, rT, hlw, w0, w0', IntKind.bits]
  · simp (decide := true) (maxSteps := 4000000) only [go_sem, Nat.reduceAdd, Nat.reduceSub, Nat.reduceMul, Nat.reduceDiv, Nat.reduceMod, Nat.reduceLT, Nat.reduceLeDiff, Nat.reduceEqDiff, Nat.reduceBEq, Nat.reduceBNe, Nat.reduceGT, Int.reduceAdd, Int.reduceSub, Int.reduceMul, Int.reduceNeg, Int.reduceLT, Int.reduceLE, Int.reduceEq, Int.reduceNe, Int.reduceBEq, Int.reduceBNe, Int.reduceToNat, Int.reduceGT, Int.reduceGE, ↓reduceIte, decide_true, decide_false, eq_self, Nat.mul_one, Nat.zero_mul, Nat.one_mul, Int.le_refl, Nat.le_refl, Int.cast_ofNat_Int, Try.f57, Sx.t, Sx.cs, rT, unS_eq, hlw, hsh, w1, hl0, IntKind.bits]
noncomputable def rxIsReading : List TV → Option TV
  | [.agg [.int .i64 a0, sT, .int .i64 a1, .int .i64 a2, .int .i64 a3, sS], .agg [.int .i64 p, .int .i64 q]] => match rowL unS sT, rowL unS sS with
    | some tab, some shade => if sxOk (⟨a0, tab, ⟨a1, a2⟩, a3, shade⟩ : Sx) = true then some (.bool (isRd (⟨a0, tab, ⟨a1, a2⟩, a3, shade⟩ : Sx) p q)) else none
    | _, _ => none
  | _ => none
theorem rxIsReading_ok : ∀ xs r, rxIsReading xs = some r → PCalls Try.prog 57 xs r := by
  intro xs r h
  unfold rxIsReading at h
  split at h
  · split at h
    · rename_i tab shade hT hS
      have hT := rowL_some (un := unS) unS_nil (@unS_some) hT
      have hS := rowL_some (un := unS) unS_nil (@unS_some) hS
      split at h
      · rename_i hc; cases h; exact rIsReading_c ⟨_, tab, ⟨_, _⟩, _, shade⟩ hT hS hc _ _
      · cases h
    · cases h
  · cases h
attribute [go_sem] rxIsReading
theorem rSum_c (a b : Span) (ha : bdB a = true) (hb : bdB b = true) : PCalls Try.prog 58 [a.t, b.t] (addS a b).t := by
  have ha := bdB_iff.1 ha
  have hb := bdB_iff.1 hb
  have w1 : IntKind.i64.wrap (a.lo + b.lo) = a.lo + b.lo := wrap_in (by omega) (by omega)
  have w2 : IntKind.i64.wrap (a.hi + b.hi) = a.hi + b.hi := wrap_in (by omega) (by omega)
  refine pcalls_by Try.mixes noSpec_ok (fn := Try.f58) Try.func58 rfl (by kernel_rfl) (by show 2 ≤ _; decide) ?_
  simp (decide := true) (maxSteps := 4000000) only [go_sem, Nat.reduceAdd, Nat.reduceSub, Nat.reduceMul, Nat.reduceDiv, Nat.reduceMod, Nat.reduceLT, Nat.reduceLeDiff, Nat.reduceEqDiff, Nat.reduceBEq, Nat.reduceBNe, Nat.reduceGT, Int.reduceAdd, Int.reduceSub, Int.reduceMul, Int.reduceNeg, Int.reduceLT, Int.reduceLE, Int.reduceEq, Int.reduceNe, Int.reduceBEq, Int.reduceBNe, Int.reduceToNat, Int.reduceGT, Int.reduceGE, ↓reduceIte, decide_true, decide_false, eq_self, Nat.mul_one, Nat.zero_mul, Nat.one_mul, Int.le_refl, Nat.le_refl, Int.cast_ofNat_Int, Try.f58, Span.t, Span.cs, w1, w2, addS]
noncomputable def rxSum : List TV → Option TV
  | [.agg [.int .i64 a, .int .i64 b], .agg [.int .i64 c, .int .i64 d]] => if bdB ⟨a, b⟩ = true ∧ bdB ⟨c, d⟩ = true then some ((addS ⟨a, b⟩ ⟨c, d⟩).t) else none
  | _ => none
theorem rxSum_ok : ∀ xs r, rxSum xs = some r → PCalls Try.prog 58 xs r := by
  intro xs r h
  unfold rxSum at h
  split at h
  · split at h
    · rename_i hc; cases h; exact rSum_c ⟨_, _⟩ ⟨_, _⟩ hc.1 hc.2
    · cases h
  · cases h
attribute [go_sem] rxSum
noncomputable def spRb' : Pm.Spec := spRx.one 58 rxSum
attribute [go_sem] spRb'
theorem spRb'_ok : SpecOk Try.prog spRb' := Spec.one_ok rxSum_ok spRx_ok
theorem shTo_bd {x : Sx} (h : GoodS x) (set : Nat) {k : Nat} (hk : k ≤ x.shade.length) : bdB (shTo x set k) = true := by
  have := shTo_b h set k hk
  have := h.sh
  rw [bdB_iff]; omega
theorem rShades_c (x : Sx) {sT sS : TV} (hS : IsRow Span.cs sS x.shade) (hv : sxOk x = true) (set : Nat) : PCalls Try.prog 60 [x.t sT sS, .int .i64 set] (shs x set).t := by
  have h := sxOk_iff.1 hv
  have h6 := h.sh
  have w1 : IntKind.i64.wrap (0 - x.wrong) = -x.wrong := by have := h.wr; rw [wrap_in (by omega) (by omega)]; omega
  refine pcalls_by Try.mixes spRb'_ok (fn := Try.f60) Try.func60 rfl (by kernel_rfl) (by show 2 ≤ _; decide) ?_
  rcases hS with ⟨rfl, hS⟩ | ⟨f, rfl⟩
  · have e : shs x set = ⟨-x.wrong, x.wrong⟩ := by unfold shs shTo; rw [hS]; rfl
    simp (decide := true) (maxSteps := 4000000) only [go_sem, Nat.reduceAdd, Nat.reduceSub, Nat.reduceMul, Nat.reduceDiv, Nat.reduceMod, Nat.reduceLT, Nat.reduceLeDiff, Nat.reduceEqDiff, Nat.reduceBEq, Nat.reduceBNe, Nat.reduceGT, Int.reduceAdd, Int.reduceSub, Int.reduceMul, Int.reduceNeg, Int.reduceLT, Int.reduceLE, Int.reduceEq, Int.reduceNe, Int.reduceBEq, Int.reduceBNe, Int.reduceToNat, Int.reduceGT, Int.reduceGE, ↓reduceIte, decide_true, decide_false, eq_self, Nat.mul_one, Nat.zero_mul, Nat.one_mul, Int.le_refl, Nat.le_refl, Int.cast_ofNat_Int, Try.f60, Sx.t, Sx.cs, w1]
    refine pwpC_loopU (A := Unit) [1, 2, 4, 5] (fun _ => [(6, .t (.int .i64 0))]) (fun _ => []) (fun _ => 0) () (by decide) (fun _ => by rfl) ?_ fun Q1 hQ1 _ I1 hI1 => ?_
    · simp (decide := true) (maxSteps := 4000000) only [go_sem, Nat.reduceAdd, Nat.reduceSub, Nat.reduceMul, Nat.reduceDiv, Nat.reduceMod, Nat.reduceLT, Nat.reduceLeDiff, Nat.reduceEqDiff, Nat.reduceBEq, Nat.reduceBNe, Nat.reduceGT, Int.reduceAdd, Int.reduceSub, Int.reduceMul, Int.reduceNeg, Int.reduceLT, Int.reduceLE, Int.reduceEq, Int.reduceNe, Int.reduceBEq, Int.reduceBNe, Int.reduceToNat, Int.reduceGT, Int.reduceGE, ↓reduceIte, decide_true, decide_false, eq_self, Nat.mul_one, Nat.zero_mul, Nat.one_mul, Int.le_refl, Nat.le_refl, Int.cast_ofNat_Int]
    · simp (decide := true) (maxSteps := 4000000) only [go_sem, Nat.reduceAdd, Nat.reduceSub, Nat.reduceMul, Nat.reduceDiv, Nat.reduceMod, Nat.reduceLT, Nat.reduceLeDiff, Nat.reduceEqDiff, Nat.reduceBEq, Nat.reduceBNe, Nat.reduceGT, Int.reduceAdd, Int.reduceSub, Int.reduceMul, Int.reduceNeg, Int.reduceLT, Int.reduceLE, Int.reduceEq, Int.reduceNe, Int.reduceBEq, Int.reduceBNe, Int.reduceToNat, Int.reduceGT, Int.reduceGE, ↓reduceIte, decide_true, decide_false, eq_self, Nat.mul_one, Nat.zero_mul, Nat.one_mul, Int.le_refl, Nat.le_refl, Int.cast_ofNat_Int]
      refine hQ1 _ _ ?_
      simp (decide := true) (maxSteps := 4000000) only [go_sem, Nat.reduceAdd, Nat.reduceSub, Nat.reduceMul, Nat.reduceDiv, Nat.reduceMod, Nat.reduceLT, Nat.reduceLeDiff, Nat.reduceEqDiff, Nat.reduceBEq, Nat.reduceBNe, Nat.reduceGT, Int.reduceAdd, Int.reduceSub, Int.reduceMul, Int.reduceNeg, Int.reduceLT, Int.reduceLE, Int.reduceEq, Int.reduceNe, Int.reduceBEq, Int.reduceBNe, Int.reduceToNat, Int.reduceGT, Int.reduceGE, ↓reduceIte, decide_true, decide_false, eq_self, Nat.mul_one, Nat.zero_mul, Nat.one_mul, Int.le_refl, Nat.le_refl, Int.cast_ofNat_Int, e, Span.t, Span.cs]
  · simp (decide := true) (maxSteps := 4000000) only [go_sem, Nat.reduceAdd, Nat.reduceSub, Nat.reduceMul, Nat.reduceDiv, Nat.reduceMod, Nat.reduceLT, Nat.reduceLeDiff, Nat.reduceEqDiff, Nat.reduceBEq, Nat.reduceBNe, Nat.reduceGT, Int.reduceAdd, Int.reduceSub, Int.reduceMul, Int.reduceNeg, Int.reduceLT, Int.reduceLE, Int.reduceEq, Int.reduceNe, Int.reduceBEq, Int.reduceBNe, Int.reduceToNat, Int.reduceGT, Int.reduceGE, ↓reduceIte, decide_true, decide_false, eq_self, Nat.mul_one, Nat.zero_mul, Nat.one_mul, Int.le_refl, Nat.le_refl, Int.cast_ofNat_Int, Try.f60, Sx.t, Sx.cs, w1]
    refine pwpC_loopU (A := { k : Nat // k ≤ x.shade.length }) [1, 2, 4, 5] (fun k => [(6, .t (.int .i64 k.1))]) (fun k => [(2, .box ((shTo x set k.1).cs.map .t))]) (fun k => x.shade.length - k.1) ⟨0, by omega⟩ (by decide) (fun _ => by rfl) ?_ fun Q1 hQ1 ⟨k, hk⟩ I1 hI1 => ?_
    · simp (decide := true) (maxSteps := 4000000) only [go_sem, Nat.reduceAdd, Nat.reduceSub, Nat.reduceMul, Nat.reduceDiv, Nat.reduceMod, Nat.reduceLT, Nat.reduceLeDiff, Nat.reduceEqDiff, Nat.reduceBEq, Nat.reduceBNe, Nat.reduceGT, Int.reduceAdd, Int.reduceSub, Int.reduceMul, Int.reduceNeg, Int.reduceLT, Int.reduceLE, Int.reduceEq, Int.reduceNe, Int.reduceBEq, Int.reduceBNe, Int.reduceToNat, Int.reduceGT, Int.reduceGE, ↓reduceIte, decide_true, decide_false, eq_self, Nat.mul_one, Nat.zero_mul, Nat.one_mul, Int.le_refl, Nat.le_refl, Int.cast_ofNat_Int, shTo, List.range_zero, List.foldl_nil, Span.cs]
    · by_cases hlt : (k : Int) < x.shade.length
      · obtain ⟨s, hs⟩ := get_lt hlt
        have hd := flat_at Span.cs (n := 2) (fun _ => rfl) hs
        have hc1 : IntKind.i64.wrap (k + 1) = ((k + 1 : Nat) : Int) := by rw [wrap_in (by omega) (by omega)]; omega
        have hes := atS_eq hs
        have hsb := h.shade s (List.mem_of_getElem? hs)
        have hb1 := shTo_bd h set hk
        have hb2 : bdB s = true := bdB_iff.2 (by omega)
        have hnx := shTo_succ x set k
        rw [hes] at hnx
        obtain ⟨A, hA⟩ : ∃ A, shTo x set k = A := ⟨_, rfl⟩
        rw [hA] at hb1 hnx
        have eA : Span.mk A.lo A.hi = A := rfl
        have es : Span.mk s.lo s.hi = s := rfl
        have k64 : (0 : Int) ≤ k ∧ (k : Int) < 64 := by omega
        have s0 : (0 : Int) ≤ set := by omega
        cases hb : set.testBit k with
        | false =>
          rw [hb] at hnx
          simp (decide := true) (maxSteps := 4000000) only [go_sem, Nat.reduceAdd, Nat.reduceSub, Nat.reduceMul, Nat.reduceDiv, Nat.reduceMod, Nat.reduceLT, Nat.reduceLeDiff, Nat.reduceEqDiff, Nat.reduceBEq, Nat.reduceBNe, Nat.reduceGT, Int.reduceAdd, Int.reduceSub, Int.reduceMul, Int.reduceNeg, Int.reduceLT, Int.reduceLE, Int.reduceEq, Int.reduceNe, Int.reduceBEq, Int.reduceBNe, Int.reduceToNat, Int.reduceGT, Int.reduceGE, ↓reduceIte, decide_true, decide_false, eq_self, Nat.mul_one, Nat.zero_mul, Nat.one_mul, Int.le_refl, Nat.le_refl, Int.cast_ofNat_Int, hlt, hd, Span.cs, Int.toNat_natCast, k64, s0, hb, Sx.cs]
          refine hI1 _ ⟨k + 1, by omega⟩ (by simp only; omega) ?_
          simp (decide := true) (maxSteps := 4000000) only [go_sem, Nat.reduceAdd, Nat.reduceSub, Nat.reduceMul, Nat.reduceDiv, Nat.reduceMod, Nat.reduceLT, Nat.reduceLeDiff, Nat.reduceEqDiff, Nat.reduceBEq, Nat.reduceBNe, Nat.reduceGT, Int.reduceAdd, Int.reduceSub, Int.reduceMul, Int.reduceNeg, Int.reduceLT, Int.reduceLE, Int.reduceEq, Int.reduceNe, Int.reduceBEq, Int.reduceBNe, Int.reduceToNat, Int.reduceGT, Int.reduceGE, ↓reduceIte, decide_true, decide_false, eq_self, Nat.mul_one, Nat.zero_mul, Nat.one_mul, Int.le_refl, Nat.le_refl, Int.cast_ofNat_Int, hc1, hnx, hA, Sx.cs, Span.cs]
        | true =>
          rw [hb] at hnx
          simp (decide := true) (maxSteps := 4000000) only [go_sem, Nat.reduceAdd, Nat.reduceSub, Nat.reduceMul, Nat.reduceDiv, Nat.reduceMod, Nat.reduceLT, Nat.reduceLeDiff, Nat.reduceEqDiff, Nat.reduceBEq, Nat.reduceBNe, Nat.reduceGT, Int.reduceAdd, Int.reduceSub, Int.reduceMul, Int.reduceNeg, Int.reduceLT, Int.reduceLE, Int.reduceEq, Int.reduceNe, Int.reduceBEq, Int.reduceBNe, Int.reduceToNat, Int.reduceGT, Int.reduceGE, ↓reduceIte, decide_true, decide_false, eq_self, Nat.mul_one, Nat.zero_mul, Nat.one_mul, Int.le_refl, Nat.le_refl, Int.cast_ofNat_Int, hlt, hd, Span.cs, Int.toNat_natCast, k64, s0, hb, hA, eA, es, hb1, hb2, Span.t, Sx.cs]
          refine hI1 _ ⟨k + 1, by omega⟩ (by simp only; omega) ?_
          simp (decide := true) (maxSteps := 4000000) only [go_sem, Nat.reduceAdd, Nat.reduceSub, Nat.reduceMul, Nat.reduceDiv, Nat.reduceMod, Nat.reduceLT, Nat.reduceLeDiff, Nat.reduceEqDiff, Nat.reduceBEq, Nat.reduceBNe, Nat.reduceGT, Int.reduceAdd, Int.reduceSub, Int.reduceMul, Int.reduceNeg, Int.reduceLT, Int.reduceLE, Int.reduceEq, Int.reduceNe, Int.reduceBEq, Int.reduceBNe, Int.reduceToNat, Int.reduceGT, Int.reduceGE, ↓reduceIte, decide_true, decide_false, eq_self, Nat.mul_one, Nat.zero_mul, Nat.one_mul, Int.le_refl, Nat.le_refl, Int.cast_ofNat_Int, hc1, hnx, Sx.cs, Span.cs]
      · have hke : k = x.shade.length := by omega
        subst hke
        simp (decide := true) (maxSteps := 4000000) only [go_sem, Nat.reduceAdd, Nat.reduceSub, Nat.reduceMul, Nat.reduceDiv, Nat.reduceMod, Nat.reduceLT, Nat.reduceLeDiff, Nat.reduceEqDiff, Nat.reduceBEq, Nat.reduceBNe, Nat.reduceGT, Int.reduceAdd, Int.reduceSub, Int.reduceMul, Int.reduceNeg, Int.reduceLT, Int.reduceLE, Int.reduceEq, Int.reduceNe, Int.reduceBEq, Int.reduceBNe, Int.reduceToNat, Int.reduceGT, Int.reduceGE, ↓reduceIte, decide_true, decide_false, eq_self, Nat.mul_one, Nat.zero_mul, Nat.one_mul, Int.le_refl, Nat.le_refl, Int.cast_ofNat_Int, hlt]
        refine hQ1 _ _ ?_
        simp (decide := true) (maxSteps := 4000000) only [go_sem, Nat.reduceAdd, Nat.reduceSub, Nat.reduceMul, Nat.reduceDiv, Nat.reduceMod, Nat.reduceLT, Nat.reduceLeDiff, Nat.reduceEqDiff, Nat.reduceBEq, Nat.reduceBNe, Nat.reduceGT, Int.reduceAdd, Int.reduceSub, Int.reduceMul, Int.reduceNeg, Int.reduceLT, Int.reduceLE, Int.reduceEq, Int.reduceNe, Int.reduceBEq, Int.reduceBNe, Int.reduceToNat, Int.reduceGT, Int.reduceGE, ↓reduceIte, decide_true, decide_false, eq_self, Nat.mul_one, Nat.zero_mul, Nat.one_mul, Int.le_refl, Nat.le_refl, Int.cast_ofNat_Int, shs, Span.t, Span.cs]
theorem rShadesI_c (x : Sx) {sT sS : TV} (hS : IsRow Span.cs sS x.shade) (hv : sxOk x = true) {n : Int} (h0 : 0 ≤ n) : PCalls Try.prog 60 [x.t sT sS, .int .i64 n] (shs x n.toNat).t := by
  have := rShades_c (sT := sT) x hS hv n.toNat
  rwa [Int.toNat_of_nonneg h0] at this
noncomputable def rxShades : List TV → Option TV
  | [.agg [.int .i64 a0, sT, .int .i64 a1, .int .i64 a2, .int .i64 a3, sS], .int .i64 n] => match rowL unS sT, rowL unS sS with
    | some tab, some shade => if sxOk (⟨a0, tab, ⟨a1, a2⟩, a3, shade⟩ : Sx) = true ∧ 0 ≤ n then some ((shs (⟨a0, tab, ⟨a1, a2⟩, a3, shade⟩ : Sx) n.toNat).t) else none
    | _, _ => none
  | _ => none
theorem rxShades_ok : ∀ xs r, rxShades xs = some r → PCalls Try.prog 60 xs r := by
  intro xs r h
  unfold rxShades at h
  split at h
  · split at h
    · rename_i tab shade hT hS
      have hT := rowL_some (un := unS) unS_nil (@unS_some) hT
      have hS := rowL_some (un := unS) unS_nil (@unS_some) hS
      split at h
      · rename_i hc; cases h; exact rShadesI_c ⟨_, tab, ⟨_, _⟩, _, shade⟩ hS hc.1 hc.2
      · cases h
    · cases h
  · cases h
attribute [go_sem] rxShades
theorem rCorrection_c (x : Sx) {sT sS : TV} (hT : IsRow Span.cs sT x.tab) (hv : sxOk x = true) (a : Int) (ha : 0 ≤ a) (ha3 : a ≤ last x) : PCalls Try.prog 59 [x.t sT sS, .int .i64 a] (corr x.step x.tab a).t := by
  have h := sxOk_iff.1 hv
  obtain ⟨f, rfl⟩ := good_T h hT
  have h1 := h.st
  have hg := h.tab
  have hlb := last_b h
  have hit := rd_tab h ha ha3
  have hlen := h.len
  have hne : ¬ x.step = 0 := by omega
  have q1 : a.tdiv x.step = a / x.step := Int.tdiv_eq_ediv_of_nonneg ha
  have q2 : a.tmod x.step = a % x.step := Int.tmod_eq_emod_of_nonneg ha
  have hq := hit.k0
  have hqn := hit.kn
  have hd0 := hit.d0
  have hds := hit.ds
  have hqb : a / x.step ≤ 504000 := Int.le_trans (Int.ediv_le_self x.step ha) (by omega)
  obtain ⟨k, hk⟩ : ∃ k : Nat, a / x.step = k := ⟨(a / x.step).toNat, (Int.toNat_of_nonneg hq).symm⟩
  obtain ⟨d, hd⟩ : ∃ d : Int, a % x.step = d := ⟨_, rfl⟩
  have w1 : IntKind.i64.wrap (k : Int) = k := wrap_in (by omega) (by omega)
  have w2 : IntKind.i64.wrap d = d := wrap_in (by omega) (by omega)
  rw [hk, Int.toNat_natCast] at hqn
  have hkl : (k : Int) < x.tab.length := by omega
  obtain ⟨u, hx⟩ := get_lt hkl
  have dx := flat_at Span.cs (n := 2) (fun _ => rfl) hx
  have ex := atS_eq hx
  have gx := hg u (List.mem_of_getElem? hx)
  refine pcalls_by Try.mixes spRb'_ok (fn := Try.f59) Try.func59 rfl (by kernel_rfl) (by show 2 ≤ _; decide) ?_
  by_cases hd00 : d = 0
  · subst hd00
    have e : corr x.step x.tab a = u := by unfold corr; simp only [hd, hk, Int.toNat_natCast, if_true, ex]
    have b0 : ((0 : Int) == 0) = true := rfl
    simp (decide := true) (maxSteps := 4000000) only [go_sem, Nat.reduceAdd, Nat.reduceSub, Nat.reduceMul, Nat.reduceDiv, Nat.reduceMod, Nat.reduceLT, Nat.reduceLeDiff, Nat.reduceEqDiff, Nat.reduceBEq, Nat.reduceBNe, Nat.reduceGT, Int.reduceAdd, Int.reduceSub, Int.reduceMul, Int.reduceNeg, Int.reduceLT, Int.reduceLE, Int.reduceEq, Int.reduceNe, Int.reduceBEq, Int.reduceBNe, Int.reduceToNat, Int.reduceGT, Int.reduceGE, ↓reduceIte, decide_true, decide_false, eq_self, Nat.mul_one, Nat.zero_mul, Nat.one_mul, Int.le_refl, Nat.le_refl, Int.cast_ofNat_Int, Try.f59, Sx.t, Sx.cs, hne, q1, q2, hk, hd, w1, w2, b0, hkl, Int.toNat_natCast, dx, Span.cs, e, Span.t]
  · have hkd := hit.kd (by rw [hd]; exact hd00)
    rw [hk, Int.toNat_natCast] at hkd
    have hkl1 : ((k + 1 : Nat) : Int) < x.tab.length := by omega
    obtain ⟨y, hy⟩ := get_lt hkl1
    have dy := flat_at Span.cs (n := 2) (fun _ => rfl) hy
    have ey := atS_eq hy
    have gy := hg y (List.mem_of_getElem? hy)
    obtain ⟨st, hst⟩ : ∃ st, x.step = st := ⟨_, rfl⟩
    have e : corr x.step x.tab a = ⟨(u.lo * (st - d) + y.lo * d) / st, (u.hi * (st - d) + y.hi * d) / st⟩ := by unfold corr; simp only [hd, hk, Int.toNat_natCast, if_neg hd00, ex, ey]; rw [hst]
    rw [hd] at hd0 hds
    rw [hst] at h1 hds e
    have b0 : (d == 0) = false := beq_int_f hd00
    have w3 : IntKind.i64.wrap ((k : Int) + 1) = ((k + 1 : Nat) : Int) := by rw [wrap_in (by omega) (by omega)]; omega
    have w4 : IntKind.i64.wrap (st - d) = st - d := wrap_in (by omega) (by omega)
    have p1 := mulR (a := u.lo) (b := st - d) (m := 600) (n := 72000) (by omega) (by omega) (by omega)
    have p2 := mulR (a := y.lo) (b := d) (m := 600) (n := 72000) (by omega) (by omega) (by omega)
    have p3 := mulR (a := u.hi) (b := st - d) (m := 600) (n := 72000) (by omega) (by omega) (by omega)
    have p4 := mulR (a := y.hi) (b := d) (m := 600) (n := 72000) (by omega) (by omega) (by omega)
    obtain ⟨x0, x1⟩ := u
    obtain ⟨y0, y1⟩ := y
    simp only at p1 p2 p3 p4 gx gy dx dy e
    have w5 : IntKind.i64.wrap (x0 * (st - d)) = x0 * (st - d) := wrap_in (by omega) (by omega)
    have w6 : IntKind.i64.wrap (y0 * d) = y0 * d := wrap_in (by omega) (by omega)
    have w7 : IntKind.i64.wrap (x1 * (st - d)) = x1 * (st - d) := wrap_in (by omega) (by omega)
    have w8 : IntKind.i64.wrap (y1 * d) = y1 * d := wrap_in (by omega) (by omega)
    have w9 : IntKind.i64.wrap (x0 * (st - d) + y0 * d) = x0 * (st - d) + y0 * d := wrap_in (by omega) (by omega)
    have w10 : IntKind.i64.wrap (x1 * (st - d) + y1 * d) = x1 * (st - d) + y1 * d := wrap_in (by omega) (by omega)
    have c1 : (-4000000000000000000 ≤ x0 * (st - d) + y0 * d ∧ x0 * (st - d) + y0 * d ≤ 4000000000000000000) ∧ 0 < st ∧ st ≤ 4000000000000000000 := by omega
    have c2 : (-4000000000000000000 ≤ x1 * (st - d) + y1 * d ∧ x1 * (st - d) + y1 * d ≤ 4000000000000000000) ∧ 0 < st ∧ st ≤ 4000000000000000000 := by omega
    rw [hst] at hne q1 q2 hk hd
    simp (decide := true) (maxSteps := 4000000) only [go_sem, Nat.reduceAdd, Nat.reduceSub, Nat.reduceMul, Nat.reduceDiv, Nat.reduceMod, Nat.reduceLT, Nat.reduceLeDiff, Nat.reduceEqDiff, Nat.reduceBEq, Nat.reduceBNe, Nat.reduceGT, Int.reduceAdd, Int.reduceSub, Int.reduceMul, Int.reduceNeg, Int.reduceLT, Int.reduceLE, Int.reduceEq, Int.reduceNe, Int.reduceBEq, Int.reduceBNe, Int.reduceToNat, Int.reduceGT, Int.reduceGE, ↓reduceIte, decide_true, decide_false, eq_self, Nat.mul_one, Nat.zero_mul, Nat.one_mul, Int.le_refl, Nat.le_refl, Int.cast_ofNat_Int, Try.f59, Sx.t, Sx.cs, hst, hne, q1, q2, hk, hd, w1, w2, w3, b0, hkl, hkl1, Int.toNat_natCast, dx, dy, w4, w5, w6, w7, w8, w9, w10, c1, c2, Span.cs, e, Span.t]
noncomputable def rxCorrection : List TV → Option TV
  | [.agg [.int .i64 a0, sT, .int .i64 a1, .int .i64 a2, .int .i64 a3, sS], .int .i64 n] => match rowL unS sT, rowL unS sS with
    | some tab, some shade => if sxOk (⟨a0, tab, ⟨a1, a2⟩, a3, shade⟩ : Sx) = true ∧ 0 ≤ n ∧ n ≤ last (⟨a0, tab, ⟨a1, a2⟩, a3, shade⟩ : Sx) then some ((corr a0 tab n).t) else none
    | _, _ => none
  | _ => none
theorem rxCorrection_ok : ∀ xs r, rxCorrection xs = some r → PCalls Try.prog 59 xs r := by
  intro xs r h
  unfold rxCorrection at h
  split at h
  · split at h
    · rename_i tab shade hT hS
      have hT := rowL_some (un := unS) unS_nil (@unS_some) hT
      have hS := rowL_some (un := unS) unS_nil (@unS_some) hS
      split at h
      · rename_i hc; cases h; exact rCorrection_c ⟨_, tab, ⟨_, _⟩, _, shade⟩ hT hc.1 _ hc.2.1 hc.2.2
      · cases h
    · cases h
  · cases h
attribute [go_sem] rxCorrection
noncomputable def spRc : Pm.Spec := ((((spRb'.one 18 rxCheck).one 57 rxIsReading).one 60 rxShades).one 59 rxCorrection)
@[go_sem] theorem spRc_p (f : FuncId) (xs : List TV) : spRc.p f xs = Pm.Spec.p (((((spRb'.one 18 rxCheck).one 57 rxIsReading).one 60 rxShades).one 59 rxCorrection)) f xs := rfl
@[go_sem] theorem spRc_h (f : FuncId) (ps : List PV) (hl : List PO) : spRc.h f ps hl = Pm.Spec.h (((((spRb'.one 18 rxCheck).one 57 rxIsReading).one 60 rxShades).one 59 rxCorrection)) f ps hl := rfl
@[go_sem] theorem spRc_fz (f : FuncId) : spRc.fz f = Pm.Spec.fz (((((spRb'.one 18 rxCheck).one 57 rxIsReading).one 60 rxShades).one 59 rxCorrection)) f := rfl
@[go_sem] theorem spRc_fr (f : FuncId) : spRc.fr f = Pm.Spec.fr (((((spRb'.one 18 rxCheck).one 57 rxIsReading).one 60 rxShades).one 59 rxCorrection)) f := rfl
@[go_sem] theorem spRc_mu (t : TypeId) : spRc.mu t = Pm.Spec.mu (((((spRb'.one 18 rxCheck).one 57 rxIsReading).one 60 rxShades).one 59 rxCorrection)) t := rfl
@[go_sem] theorem spRc_nf (t : TypeId) : spRc.nf t = Pm.Spec.nf (((((spRb'.one 18 rxCheck).one 57 rxIsReading).one 60 rxShades).one 59 rxCorrection)) t := rfl
theorem spRc_ok : SpecOk Try.prog spRc := Spec.one_ok rxCorrection_ok (Spec.one_ok rxShades_ok (Spec.one_ok rxIsReading_ok (Spec.one_ok rxCheck_ok spRb'_ok)))
theorem rRead_c (x : Sx) {sT sS : TV} (hT : IsRow Span.cs sT x.tab) (hS : IsRow Span.cs sS x.shade) (lT : x.tab.length ≤ 9000000000000) (lS : x.shade.length ≤ 9000000000000) (a s : Int) : PCalls Try.prog 16 [x.t sT sS, .agg [.int .i64 a, .int .i64 s]] (.tup [(readP x a s).1.t, .int .i64 (readP x a s).2]) := by
  have rT := rowS_is hT
  have rS := rowS_is hS
  unfold rowL at rT rS
  simp only [unS_nil] at rT rS
  have e0 : Sx.mk x.step x.tab ⟨x.idx.lo, x.idx.hi⟩ x.wrong x.shade = x := rfl
  refine pcalls_by Try.mixes spRc_ok (fn := Try.f16) Try.func16 rfl (by kernel_rfl) (by show 2 ≤ _; decide) ?_
  unfold readP
  cases hv : sxOk x with
  | false =>
    have b : ((50 : Int) != 0) = true := rfl
    simp (decide := true) (maxSteps := 4000000) only [go_sem, Nat.reduceAdd, Nat.reduceSub, Nat.reduceMul, Nat.reduceDiv, Nat.reduceMod, Nat.reduceLT, Nat.reduceLeDiff, Nat.reduceEqDiff, Nat.reduceBEq, Nat.reduceBNe, Nat.reduceGT, Int.reduceAdd, Int.reduceSub, Int.reduceMul, Int.reduceNeg, Int.reduceLT, Int.reduceLE, Int.reduceEq, Int.reduceNe, Int.reduceBEq, Int.reduceBNe, Int.reduceToNat, Int.reduceGT, Int.reduceGE, ↓reduceIte, decide_true, decide_false, eq_self, Nat.mul_one, Nat.zero_mul, Nat.one_mul, Int.le_refl, Nat.le_refl, Int.cast_ofNat_Int, Try.f16, Sx.t, Sx.cs, rT, rS, lT, lS, e0, hv, b, Span.t, Span.cs]
  | true =>
    have h := sxOk_iff.1 hv
    have b : ((0 : Int) != 0) = false := rfl
    cases hr : isRd x a s with
    | false => simp (decide := true) (maxSteps := 4000000) only [go_sem, Nat.reduceAdd, Nat.reduceSub, Nat.reduceMul, Nat.reduceDiv, Nat.reduceMod, Nat.reduceLT, Nat.reduceLeDiff, Nat.reduceEqDiff, Nat.reduceBEq, Nat.reduceBNe, Nat.reduceGT, Int.reduceAdd, Int.reduceSub, Int.reduceMul, Int.reduceNeg, Int.reduceLT, Int.reduceLE, Int.reduceEq, Int.reduceNe, Int.reduceBEq, Int.reduceBNe, Int.reduceToNat, Int.reduceGT, Int.reduceGE, ↓reduceIte, decide_true, decide_false, eq_self, Nat.mul_one, Nat.zero_mul, Nat.one_mul, Int.le_refl, Nat.le_refl, Int.cast_ofNat_Int, Try.f16, Sx.t, Sx.cs, rT, rS, lT, lS, e0, hv, hr, b, Span.t, Span.cs]
    | true =>
      obtain ⟨⟨ha0, ha1⟩, hs0, _⟩ := isRd_iff.1 hr
      have hlb := last_b h
      have hcb := corr_b (rd_tab h ha0 ha1) h.tab
      have hsb := shs_b h s.toNat
      have hib := h.idx
      obtain ⟨C, hC⟩ : ∃ C, corr x.step x.tab a = C := ⟨_, rfl⟩
      obtain ⟨S, hS'⟩ : ∃ S, shs x s.toNat = S := ⟨_, rfl⟩
      have hrs : readS x a s.toNat = addS (addS (addS ⟨a, a⟩ x.idx) C) S := by unfold readS; rw [hC, hS']
      rw [hC] at hcb
      rw [hS'] at hsb
      have b1 : bdB ⟨a, a⟩ = true := bdB_iff.2 (by simp only; omega)
      have b2 : bdB x.idx = true := bdB_iff.2 (by omega)
      have b3 : bdB C = true := bdB_iff.2 (by omega)
      have b4 : bdB S = true := bdB_iff.2 (by omega)
      have b5 : bdB (addS ⟨a, a⟩ x.idx) = true := bdB_iff.2 (by simp only [addS]; omega)
      have b6 : bdB (addS (addS ⟨a, a⟩ x.idx) C) = true := bdB_iff.2 (by simp only [addS]; omega)
      have ei : Span.mk x.idx.lo x.idx.hi = x.idx := rfl
      have eC : Span.mk C.lo C.hi = C := rfl
      have eS : Span.mk S.lo S.hi = S := rfl
      obtain ⟨A1, hA1⟩ : ∃ A1, addS ⟨a, a⟩ x.idx = A1 := ⟨_, rfl⟩
      rw [hA1] at b5 b6 hrs
      obtain ⟨A2, hA2⟩ : ∃ A2, addS A1 C = A2 := ⟨_, rfl⟩
      rw [hA2] at b6 hrs
      have e1 : Span.mk A1.lo A1.hi = A1 := rfl
      have e2 : Span.mk A2.lo A2.hi = A2 := rfl
      simp (decide := true) (maxSteps := 4000000) only [go_sem, Nat.reduceAdd, Nat.reduceSub, Nat.reduceMul, Nat.reduceDiv, Nat.reduceMod, Nat.reduceLT, Nat.reduceLeDiff, Nat.reduceEqDiff, Nat.reduceBEq, Nat.reduceBNe, Nat.reduceGT, Int.reduceAdd, Int.reduceSub, Int.reduceMul, Int.reduceNeg, Int.reduceLT, Int.reduceLE, Int.reduceEq, Int.reduceNe, Int.reduceBEq, Int.reduceBNe, Int.reduceToNat, Int.reduceGT, Int.reduceGE, ↓reduceIte, decide_true, decide_false, eq_self, Nat.mul_one, Nat.zero_mul, Nat.one_mul, Int.le_refl, Nat.le_refl, Int.cast_ofNat_Int, Try.f16, Sx.t, Sx.cs, rT, rS, lT, lS, e0, hv, hr, b, Span.t, Span.cs, ha0, ha1, hs0, hC, hS', hrs, b1, b2, b3, b4, b5, b6, ei, eC, eS, hA1, hA2, e1, e2]
noncomputable def rxRead : List TV → Option TV
  | [.agg [.int .i64 a0, sT, .int .i64 a1, .int .i64 a2, .int .i64 a3, sS], .agg [.int .i64 p, .int .i64 q]] => match rowL unS sT, rowL unS sS with
    | some tab, some shade => if tab.length ≤ 9000000000000 ∧ shade.length ≤ 9000000000000 then some (.tup [(readP (⟨a0, tab, ⟨a1, a2⟩, a3, shade⟩ : Sx) p q).1.t, .int .i64 (readP (⟨a0, tab, ⟨a1, a2⟩, a3, shade⟩ : Sx) p q).2]) else none
    | _, _ => none
  | _ => none
theorem rxRead_ok : ∀ xs r, rxRead xs = some r → PCalls Try.prog 16 xs r := by
  intro xs r h
  unfold rxRead at h
  split at h
  · split at h
    · rename_i tab shade hT hS
      have hT := rowL_some (un := unS) unS_nil (@unS_some) hT
      have hS := rowL_some (un := unS) unS_nil (@unS_some) hS
      split at h
      · rename_i hc; cases h; exact rRead_c ⟨_, tab, ⟨_, _⟩, _, shade⟩ hT hS hc.1 hc.2 _ _
      · cases h
    · cases h
  · cases h
attribute [go_sem] rxRead
end Go.Proofs.Ytjmkccckohcfkaa

/- Part Re. -/
namespace Go.Os
open Go Go.Pm Go.Oc Go.Oh
def bothOf (L : List Span) : Span := L.foldl (fun a s => ⟨max a.lo s.lo, min a.hi s.hi⟩) ⟨-1000000, 1000000⟩
theorem bothOf_snoc (L : List Span) (s : Span) : bothOf (L ++ [s]) = ⟨max (bothOf L).lo s.lo, min (bothOf L).hi s.hi⟩ := by unfold bothOf; rw [List.foldl_append]; rfl
theorem bothF_b : ∀ (L : List Span) (a : Span), (∀ s ∈ L, -600000 ≤ s.lo ∧ s.lo ≤ 600000 ∧ -600000 ≤ s.hi ∧ s.hi ≤ 600000) → (-1000000 ≤ a.lo ∧ a.lo ≤ 600000 ∧ -600000 ≤ a.hi ∧ a.hi ≤ 1000000) → -1000000 ≤ (L.foldl (fun (a s : Span) => (⟨max a.lo s.lo, min a.hi s.hi⟩ : Span)) a).lo ∧ (L.foldl (fun (a s : Span) => (⟨max a.lo s.lo, min a.hi s.hi⟩ : Span)) a).lo ≤ 600000 ∧ -600000 ≤ (L.foldl (fun (a s : Span) => (⟨max a.lo s.lo, min a.hi s.hi⟩ : Span)) a).hi ∧ (L.foldl (fun (a s : Span) => (⟨max a.lo s.lo, min a.hi s.hi⟩ : Span)) a).hi ≤ 1000000
  | [], a, _, h => h
  | s :: L, a, hL, h => by
    rw [List.foldl_cons]
    have hs := hL s (by simp)
    exact bothF_b L _ (fun y hy => hL y (List.mem_cons_of_mem _ hy)) (by simp only; omega)
theorem bothOf_b (L : List Span) (h : ∀ s ∈ L, -600000 ≤ s.lo ∧ s.lo ≤ 600000 ∧ -600000 ≤ s.hi ∧ s.hi ≤ 600000) : -1000000 ≤ (bothOf L).lo ∧ (bothOf L).lo ≤ 600000 ∧ -600000 ≤ (bothOf L).hi ∧ (bothOf L).hi ≤ 1000000 := bothF_b L _ h (by decide)
theorem sumsN_snoc (x : Sx) (l : List Tr) (p : Tr) (k : Nat) : sumsN x (l ++ [p]) k = if trK x p = k then sumsN x l k ++ [trS x p] else sumsN x l k := by
  unfold sumsN
  rw [List.filter_append, List.map_append]
  by_cases e : trK x p = k
  · rw [if_pos e]; simp [e]
  · rw [if_neg e]; simp [e]
theorem trK_iff {x : Sx} (h : GoodS x) {p : Tr} (hp : trB x p = true) (k : Nat) : p.a = (k : Int) * x.step ↔ trK x p = k := by
  unfold trB at hp
  simp only [Bool.and_eq_true, decide_eq_true_eq] at hp
  obtain ⟨h1, _⟩ := isRd_iff.1 hp.1
  have hst := h.st
  have e3 := Int.mul_ediv_add_emod p.a x.step
  rw [hp.2.1, Int.add_zero] at e3
  unfold trK
  have q0 : 0 ≤ p.a / x.step := Int.ediv_nonneg h1.1 (by omega)
  constructor
  · intro e
    rw [e, Int.mul_ediv_cancel _ (by omega)]; simp
  · intro e
    have : p.a / x.step = (k : Int) := by omega
    rw [this] at e3
    rw [← e3, Int.mul_comm]
/-- The trials of a set. -/
def setT (l : List Tr) (s : Nat) : List Tr := selA l (setN l.length s)
theorem setN_lt {n s : Nat} {x : Nat} (h : x ∈ setN n s) : x < n := by
  unfold setN at h; exact List.mem_range.1 (List.mem_filter.1 h).1
def bS (x : Sx) (L : List Tr) (k : Nat) : Span := bothOf (sumsN x L k)
theorem bS_b {x : Sx} (h : GoodS x) {L : List Tr} (hl : L.all (trB x) = true) (k : Nat) : -1000000 ≤ (bS x L k).lo ∧ (bS x L k).lo ≤ 600000 ∧ -600000 ≤ (bS x L k).hi ∧ (bS x L k).hi ≤ 1000000 := bothOf_b _ fun s hs => sumsN_b h hl hs
end Go.Os
namespace Go.Proofs.Ytjmkccckohcfkaa
open Go.RowKit Go.Pm Go.Oc Go.Oh Go.Os
set_option maxRecDepth 100000
set_option linter.unusedVariables false
set_option maxHeartbeats 4000000

noncomputable def spRe : Pm.Spec := spRx.one 57 rxIsReading
@[go_sem] theorem spRe_p (f : FuncId) (xs : List TV) : spRe.p f xs = Pm.Spec.p (spRx.one 57 rxIsReading) f xs := rfl
@[go_sem] theorem spRe_h (f : FuncId) (ps : List PV) (hl : List PO) : spRe.h f ps hl = Pm.Spec.h (spRx.one 57 rxIsReading) f ps hl := rfl
@[go_sem] theorem spRe_fz (f : FuncId) : spRe.fz f = Pm.Spec.fz (spRx.one 57 rxIsReading) f := rfl
@[go_sem] theorem spRe_fr (f : FuncId) : spRe.fr f = Pm.Spec.fr (spRx.one 57 rxIsReading) f := rfl
@[go_sem] theorem spRe_mu (t : TypeId) : spRe.mu t = Pm.Spec.mu (spRx.one 57 rxIsReading) t := rfl
@[go_sem] theorem spRe_nf (t : TypeId) : spRe.nf t = Pm.Spec.nf (spRx.one 57 rxIsReading) t := rfl
theorem spRe_ok : SpecOk Try.prog spRe := Spec.one_ok rxIsReading_ok spRx_ok
theorem rAreTrials_c (x : Sx) {sT sS : TV} (hT : IsRow Span.cs sT x.tab) (hS : IsRow Span.cs sS x.shade) (hv : sxOk x = true) {l : List Tr} {s : TV} (hs : IsRow Tr.cs s l) (ll : l.length ≤ 9000000000000) : PCalls Try.prog 79 [x.t sT sS, s] (.bool (trsOk x l)) := by
  have h := sxOk_iff.1 hv
  have rT := rowS_is hT
  have rS := rowS_is hS
  unfold rowL at rT rS
  simp only [unS_nil] at rT rS
  have e0 : Sx.mk x.step x.tab ⟨x.idx.lo, x.idx.hi⟩ x.wrong x.shade = x := rfl
  have hst := h.st
  have hne : ¬ x.step = 0 := by omega
  refine pcalls_by Try.mixes spRe_ok (fn := Try.f79) Try.func79 rfl (by kernel_rfl) (by show 2 ≤ _; decide) ?_
  unfold trsOk
  rcases hs with ⟨rfl, rfl⟩ | ⟨g, rfl⟩
  · have c1 : inB 0 1 8 = false := rfl
    have c2 : inB (([] : List Tr).length : Int) 1 8 = false := rfl
    rw [c2, Bool.false_and]
    simp (decide := true) (maxSteps := 4000000) only [go_sem, Nat.reduceAdd, Nat.reduceSub, Nat.reduceMul, Nat.reduceDiv, Nat.reduceMod, Nat.reduceLT, Nat.reduceLeDiff, Nat.reduceEqDiff, Nat.reduceBEq, Nat.reduceBNe, Nat.reduceGT, Int.reduceAdd, Int.reduceSub, Int.reduceMul, Int.reduceNeg, Int.reduceLT, Int.reduceLE, Int.reduceEq, Int.reduceNe, Int.reduceBEq, Int.reduceBNe, Int.reduceToNat, Int.reduceGT, Int.reduceGE, ↓reduceIte, decide_true, decide_false, eq_self, Nat.mul_one, Nat.zero_mul, Nat.one_mul, Int.le_refl, Nat.le_refl, Int.cast_ofNat_Int, Try.f79, Sx.t, Sx.cs, c1]
    refine pwpC_loopU (A := Unit) [1, 2, 4] (fun _ => [(6, .t (.int .i64 0)), (5, .t (.bool false))]) (fun _ => []) (fun _ => 0) () (by decide) (fun _ => by rfl) ?_ fun Q1 hQ1 _ I1 hI1 => ?_
    · simp (decide := true) (maxSteps := 4000000) only [go_sem, Nat.reduceAdd, Nat.reduceSub, Nat.reduceMul, Nat.reduceDiv, Nat.reduceMod, Nat.reduceLT, Nat.reduceLeDiff, Nat.reduceEqDiff, Nat.reduceBEq, Nat.reduceBNe, Nat.reduceGT, Int.reduceAdd, Int.reduceSub, Int.reduceMul, Int.reduceNeg, Int.reduceLT, Int.reduceLE, Int.reduceEq, Int.reduceNe, Int.reduceBEq, Int.reduceBNe, Int.reduceToNat, Int.reduceGT, Int.reduceGE, ↓reduceIte, decide_true, decide_false, eq_self, Nat.mul_one, Nat.zero_mul, Nat.one_mul, Int.le_refl, Nat.le_refl, Int.cast_ofNat_Int]
    · simp (decide := true) (maxSteps := 4000000) only [go_sem, Nat.reduceAdd, Nat.reduceSub, Nat.reduceMul, Nat.reduceDiv, Nat.reduceMod, Nat.reduceLT, Nat.reduceLeDiff, Nat.reduceEqDiff, Nat.reduceBEq, Nat.reduceBNe, Nat.reduceGT, Int.reduceAdd, Int.reduceSub, Int.reduceMul, Int.reduceNeg, Int.reduceLT, Int.reduceLE, Int.reduceEq, Int.reduceNe, Int.reduceBEq, Int.reduceBNe, Int.reduceToNat, Int.reduceGT, Int.reduceGE, ↓reduceIte, decide_true, decide_false, eq_self, Nat.mul_one, Nat.zero_mul, Nat.one_mul, Int.le_refl, Nat.le_refl, Int.cast_ofNat_Int, Bool.false_and]
      refine hQ1 _ _ ?_
      simp (decide := true) (maxSteps := 4000000) only [go_sem, Nat.reduceAdd, Nat.reduceSub, Nat.reduceMul, Nat.reduceDiv, Nat.reduceMod, Nat.reduceLT, Nat.reduceLeDiff, Nat.reduceEqDiff, Nat.reduceBEq, Nat.reduceBNe, Nat.reduceGT, Int.reduceAdd, Int.reduceSub, Int.reduceMul, Int.reduceNeg, Int.reduceLT, Int.reduceLE, Int.reduceEq, Int.reduceNe, Int.reduceBEq, Int.reduceBNe, Int.reduceToNat, Int.reduceGT, Int.reduceGE, ↓reduceIte, decide_true, decide_false, eq_self, Nat.mul_one, Nat.zero_mul, Nat.one_mul, Int.le_refl, Nat.le_refl, Int.cast_ofNat_Int]
  · obtain ⟨B, hB⟩ : ∃ B, inB (l.length : Int) 1 8 = B := ⟨_, rfl⟩
    rw [hB]
    simp (decide := true) (maxSteps := 4000000) only [go_sem, Nat.reduceAdd, Nat.reduceSub, Nat.reduceMul, Nat.reduceDiv, Nat.reduceMod, Nat.reduceLT, Nat.reduceLeDiff, Nat.reduceEqDiff, Nat.reduceBEq, Nat.reduceBNe, Nat.reduceGT, Int.reduceAdd, Int.reduceSub, Int.reduceMul, Int.reduceNeg, Int.reduceLT, Int.reduceLE, Int.reduceEq, Int.reduceNe, Int.reduceBEq, Int.reduceBNe, Int.reduceToNat, Int.reduceGT, Int.reduceGE, ↓reduceIte, decide_true, decide_false, eq_self, Nat.mul_one, Nat.zero_mul, Nat.one_mul, Int.le_refl, Nat.le_refl, Int.cast_ofNat_Int, Try.f79, Sx.t, Sx.cs, hB]
    refine pwpC_loopU (A := { k : Nat // k ≤ l.length }) [1, 2, 4] (fun k => [(6, .t (.int .i64 k.1)), (5, .t (.bool (B && (l.take k.1).all (trB x))))]) (fun _ => []) (fun k => l.length - k.1) ⟨0, by omega⟩ (by decide) (fun _ => by rfl) ?_ fun Q1 hQ1 ⟨k, hk⟩ I1 hI1 => ?_
    · simp (decide := true) (maxSteps := 4000000) only [go_sem, Nat.reduceAdd, Nat.reduceSub, Nat.reduceMul, Nat.reduceDiv, Nat.reduceMod, Nat.reduceLT, Nat.reduceLeDiff, Nat.reduceEqDiff, Nat.reduceBEq, Nat.reduceBNe, Nat.reduceGT, Int.reduceAdd, Int.reduceSub, Int.reduceMul, Int.reduceNeg, Int.reduceLT, Int.reduceLE, Int.reduceEq, Int.reduceNe, Int.reduceBEq, Int.reduceBNe, Int.reduceToNat, Int.reduceGT, Int.reduceGE, ↓reduceIte, decide_true, decide_false, eq_self, Nat.mul_one, Nat.zero_mul, Nat.one_mul, Int.le_refl, Nat.le_refl, Int.cast_ofNat_Int, List.take_zero, List.all_nil, Bool.and_true]
    · rcases (Bool.eq_false_or_eq_true (B && (l.take k).all (trB x))).symm with hb | hb
      · have hf := allStopA _ hb
        simp (decide := true) (maxSteps := 4000000) only [go_sem, Nat.reduceAdd, Nat.reduceSub, Nat.reduceMul, Nat.reduceDiv, Nat.reduceMod, Nat.reduceLT, Nat.reduceLeDiff, Nat.reduceEqDiff, Nat.reduceBEq, Nat.reduceBNe, Nat.reduceGT, Int.reduceAdd, Int.reduceSub, Int.reduceMul, Int.reduceNeg, Int.reduceLT, Int.reduceLE, Int.reduceEq, Int.reduceNe, Int.reduceBEq, Int.reduceBNe, Int.reduceToNat, Int.reduceGT, Int.reduceGE, ↓reduceIte, decide_true, decide_false, eq_self, Nat.mul_one, Nat.zero_mul, Nat.one_mul, Int.le_refl, Nat.le_refl, Int.cast_ofNat_Int, hb, Bool.false_and]
        refine hQ1 _ _ ?_
        simp (decide := true) (maxSteps := 4000000) only [go_sem, Nat.reduceAdd, Nat.reduceSub, Nat.reduceMul, Nat.reduceDiv, Nat.reduceMod, Nat.reduceLT, Nat.reduceLeDiff, Nat.reduceEqDiff, Nat.reduceBEq, Nat.reduceBNe, Nat.reduceGT, Int.reduceAdd, Int.reduceSub, Int.reduceMul, Int.reduceNeg, Int.reduceLT, Int.reduceLE, Int.reduceEq, Int.reduceNe, Int.reduceBEq, Int.reduceBNe, Int.reduceToNat, Int.reduceGT, Int.reduceGE, ↓reduceIte, decide_true, decide_false, eq_self, Nat.mul_one, Nat.zero_mul, Nat.one_mul, Int.le_refl, Nat.le_refl, Int.cast_ofNat_Int, hf]
      · by_cases hlt : (k : Int) < l.length
        · obtain ⟨p, hp⟩ := get_lt hlt
          have hd := flat_at Tr.cs (n := 3) (fun _ => rfl) hp
          have hc1 : IntKind.i64.wrap (k + 1) = ((k + 1 : Nat) : Int) := by rw [wrap_in (by omega) (by omega)]; omega
          have hnx := allToA _ hp hb
          have htb := tmod_b p.a (show 0 < x.step by omega)
          have w1 : IntKind.i64.wrap (p.a.tmod x.step) = p.a.tmod x.step := wrap_in (by omega) (by omega)
          have htm := tmod0 p.a x.step
          have htr : trB x p = (isRd x p.a p.s && (decide (p.a % x.step = 0) && inB p.t (-10000) 510000)) := rfl
          simp (decide := true) (maxSteps := 4000000) only [go_sem, Nat.reduceAdd, Nat.reduceSub, Nat.reduceMul, Nat.reduceDiv, Nat.reduceMod, Nat.reduceLT, Nat.reduceLeDiff, Nat.reduceEqDiff, Nat.reduceBEq, Nat.reduceBNe, Nat.reduceGT, Int.reduceAdd, Int.reduceSub, Int.reduceMul, Int.reduceNeg, Int.reduceLT, Int.reduceLE, Int.reduceEq, Int.reduceNe, Int.reduceBEq, Int.reduceBNe, Int.reduceToNat, Int.reduceGT, Int.reduceGE, ↓reduceIte, decide_true, decide_false, eq_self, Nat.mul_one, Nat.zero_mul, Nat.one_mul, Int.le_refl, Nat.le_refl, Int.cast_ofNat_Int, hb, hlt, Bool.true_and, hd, Tr.cs, Sx.cs, Int.toNat_natCast, rT, rS, e0, hv, hne, w1, htm]
          refine hI1 _ ⟨k + 1, by omega⟩ (by simp only; omega) ?_
          simp (decide := true) (maxSteps := 4000000) only [go_sem, Nat.reduceAdd, Nat.reduceSub, Nat.reduceMul, Nat.reduceDiv, Nat.reduceMod, Nat.reduceLT, Nat.reduceLeDiff, Nat.reduceEqDiff, Nat.reduceBEq, Nat.reduceBNe, Nat.reduceGT, Int.reduceAdd, Int.reduceSub, Int.reduceMul, Int.reduceNeg, Int.reduceLT, Int.reduceLE, Int.reduceEq, Int.reduceNe, Int.reduceBEq, Int.reduceBNe, Int.reduceToNat, Int.reduceGT, Int.reduceGE, ↓reduceIte, decide_true, decide_false, eq_self, Nat.mul_one, Nat.zero_mul, Nat.one_mul, Int.le_refl, Nat.le_refl, Int.cast_ofNat_Int, hc1, hnx, htr, Bool.and_assoc, Sx.cs]
        · have hke : k = l.length := by omega
          have hf : (B && l.all (trB x)) = true := by rw [hke, List.take_length] at hb; exact hb
          simp (decide := true) (maxSteps := 4000000) only [go_sem, Nat.reduceAdd, Nat.reduceSub, Nat.reduceMul, Nat.reduceDiv, Nat.reduceMod, Nat.reduceLT, Nat.reduceLeDiff, Nat.reduceEqDiff, Nat.reduceBEq, Nat.reduceBNe, Nat.reduceGT, Int.reduceAdd, Int.reduceSub, Int.reduceMul, Int.reduceNeg, Int.reduceLT, Int.reduceLE, Int.reduceEq, Int.reduceNe, Int.reduceBEq, Int.reduceBNe, Int.reduceToNat, Int.reduceGT, Int.reduceGE, ↓reduceIte, decide_true, decide_false, eq_self, Nat.mul_one, Nat.zero_mul, Nat.one_mul, Int.le_refl, Nat.le_refl, Int.cast_ofNat_Int, hb, hlt, Bool.true_and]
          refine hQ1 _ _ ?_
          simp (decide := true) (maxSteps := 4000000) only [go_sem, Nat.reduceAdd, Nat.reduceSub, Nat.reduceMul, Nat.reduceDiv, Nat.reduceMod, Nat.reduceLT, Nat.reduceLeDiff, Nat.reduceEqDiff, Nat.reduceBEq, Nat.reduceBNe, Nat.reduceGT, Int.reduceAdd, Int.reduceSub, Int.reduceMul, Int.reduceNeg, Int.reduceLT, Int.reduceLE, Int.reduceEq, Int.reduceNe, Int.reduceBEq, Int.reduceBNe, Int.reduceToNat, Int.reduceGT, Int.reduceGE, ↓reduceIte, decide_true, decide_false, eq_self, Nat.mul_one, Nat.zero_mul, Nat.one_mul, Int.le_refl, Nat.le_refl, Int.cast_ofNat_Int, hf]
noncomputable def rxAreTrials : List TV → Option TV
  | [.agg [.int .i64 a0, sT, .int .i64 a1, .int .i64 a2, .int .i64 a3, sS], s] => match rowL unS sT, rowL unS sS, rowL unTr s with
    | some tab, some shade, some l => if sxOk (⟨a0, tab, ⟨a1, a2⟩, a3, shade⟩ : Sx) = true ∧ l.length ≤ 9000000000000 then some (.bool (trsOk (⟨a0, tab, ⟨a1, a2⟩, a3, shade⟩ : Sx) l)) else none
    | _, _, _ => none
  | _ => none
theorem rxAreTrials_ok : ∀ xs r, rxAreTrials xs = some r → PCalls Try.prog 79 xs r := by
  intro xs r h
  unfold rxAreTrials at h
  split at h
  · split at h
    · rename_i tab shade l hT hS hl
      have hT := rowL_some (un := unS) unS_nil (@unS_some) hT
      have hS := rowL_some (un := unS) unS_nil (@unS_some) hS
      have hl := rowL_some (un := unTr) unTr_nil (@unTr_some) hl
      split at h
      · rename_i hc; cases h; exact rAreTrials_c ⟨_, tab, ⟨_, _⟩, _, shade⟩ hT hS hc.1 hl hc.2
      · cases h
    · cases h
  · cases h
attribute [go_sem] rxAreTrials
noncomputable def spRf : Pm.Spec := spRx.one 60 rxShades
@[go_sem] theorem spRf_p (f : FuncId) (xs : List TV) : spRf.p f xs = Pm.Spec.p (spRx.one 60 rxShades) f xs := rfl
@[go_sem] theorem spRf_h (f : FuncId) (ps : List PV) (hl : List PO) : spRf.h f ps hl = Pm.Spec.h (spRx.one 60 rxShades) f ps hl := rfl
@[go_sem] theorem spRf_fz (f : FuncId) : spRf.fz f = Pm.Spec.fz (spRx.one 60 rxShades) f := rfl
@[go_sem] theorem spRf_fr (f : FuncId) : spRf.fr f = Pm.Spec.fr (spRx.one 60 rxShades) f := rfl
@[go_sem] theorem spRf_mu (t : TypeId) : spRf.mu t = Pm.Spec.mu (spRx.one 60 rxShades) t := rfl
@[go_sem] theorem spRf_nf (t : TypeId) : spRf.nf t = Pm.Spec.nf (spRx.one 60 rxShades) t := rfl
theorem spRf_ok : SpecOk Try.prog spRf := Spec.one_ok rxShades_ok spRx_ok
theorem rBoth_c (x : Sx) {sT sS : TV} (hT : IsRow Span.cs sT x.tab) (hS : IsRow Span.cs sS x.shade) (hv : sxOk x = true) {l : List Tr} {s : TV} (hs : IsRow Tr.cs s l) (hl : l.all (trB x) = true) (h8 : l.length ≤ 8) (h1 : 1 ≤ l.length) (set k : Nat) (hk : k < x.tab.length) : PCalls Try.prog 100 [x.t sT sS, s, .int .i64 set, .int .i64 k] (bS x (setT l set) k).t := by
  have h := sxOk_iff.1 hv
  have rT := rowS_is hT
  have rS := rowS_is hS
  unfold rowL at rT rS
  simp only [unS_nil] at rT rS
  have e0 : Sx.mk x.step x.tab ⟨x.idx.lo, x.idx.hi⟩ x.wrong x.shade = x := rfl
  obtain ⟨g, rfl⟩ := hs.ne (by omega)
  obtain ⟨a1, a2, a3⟩ := at_b h hk
  have w1 : IntKind.i64.wrap ((k : Int) * x.step) = (k : Int) * x.step := wrap_in (by omega) (by omega)
  have hlb := last_b h
  refine pcalls_by Try.mixes spRf_ok (fn := Try.f100) Try.func100 rfl (by kernel_rfl) (by show 4 ≤ _; decide) ?_
  simp (decide := true) (maxSteps := 4000000) only [go_sem, Nat.reduceAdd, Nat.reduceSub, Nat.reduceMul, Nat.reduceDiv, Nat.reduceMod, Nat.reduceLT, Nat.reduceLeDiff, Nat.reduceEqDiff, Nat.reduceBEq, Nat.reduceBNe, Nat.reduceGT, Int.reduceAdd, Int.reduceSub, Int.reduceMul, Int.reduceNeg, Int.reduceLT, Int.reduceLE, Int.reduceEq, Int.reduceNe, Int.reduceBEq, Int.reduceBNe, Int.reduceToNat, Int.reduceGT, Int.reduceGE, ↓reduceIte, decide_true, decide_false, eq_self, Nat.mul_one, Nat.zero_mul, Nat.one_mul, Int.le_refl, Nat.le_refl, Int.cast_ofNat_Int, Try.f100, Sx.t, Sx.cs]
  refine pwpC_loopU (A := { j : Nat // j ≤ l.length }) [1, 2, 3, 4, 8, 9] (fun j => [(10, .t (.int .i64 j.1))]) (fun j => [(2, .box ((bS x (selA l (setN j.1 set)) k).cs.map .t))]) (fun j => l.length - j.1) ⟨0, by omega⟩ (by decide) (fun _ => by rfl) ?_ fun Q1 hQ1 ⟨j, hj⟩ I1 hI1 => ?_
  · simp (decide := true) (maxSteps := 4000000) only [go_sem, Nat.reduceAdd, Nat.reduceSub, Nat.reduceMul, Nat.reduceDiv, Nat.reduceMod, Nat.reduceLT, Nat.reduceLeDiff, Nat.reduceEqDiff, Nat.reduceBEq, Nat.reduceBNe, Nat.reduceGT, Int.reduceAdd, Int.reduceSub, Int.reduceMul, Int.reduceNeg, Int.reduceLT, Int.reduceLE, Int.reduceEq, Int.reduceNe, Int.reduceBEq, Int.reduceBNe, Int.reduceToNat, Int.reduceGT, Int.reduceGE, ↓reduceIte, decide_true, decide_false, eq_self, Nat.mul_one, Nat.zero_mul, Nat.one_mul, Int.le_refl, Nat.le_refl, Int.cast_ofNat_Int, bS, setN, selA, sumsN, bothOf, List.range_zero, List.filter_nil, List.filterMap_nil, List.map_nil, List.foldl_nil, Span.cs, Sx.cs]
  · by_cases hlt : (j : Int) < l.length
    · obtain ⟨p, hp⟩ := get_lt hlt
      have hd := flat_at Tr.cs (n := 3) (fun _ => rfl) hp
      have hc1 : IntKind.i64.wrap (j + 1) = ((j + 1 : Nat) : Int) := by rw [wrap_in (by omega) (by omega)]; omega
      have hpb := List.all_eq_true.1 hl p (List.mem_of_getElem? hp)
      have hkk := trK_iff h hpb k
      have htb := trS_b h hpb
      have hpb' := hpb
      unfold trB at hpb'
      simp only [Bool.and_eq_true, inB_iff, decide_eq_true_eq] at hpb'
      obtain ⟨hr, hdiv, ht⟩ := hpb'
      obtain ⟨hr1, hr2⟩ := isRd_iff.1 hr
      have hsb := shs_b h p.s.toNat
      have k64 : (0 : Int) ≤ j ∧ (j : Int) < 64 := by omega
      have s0 : (0 : Int) ≤ set := by omega
      have hps0 : (0 : Int) ≤ p.s := hr2.1
      cases hb : set.testBit j with
      | false =>
        have hnx : bS x (selA l (setN (j + 1) set)) k = bS x (selA l (setN j set)) k := by rw [setN_f hb]
        simp (decide := true) (maxSteps := 4000000) only [go_sem, Nat.reduceAdd, Nat.reduceSub, Nat.reduceMul, Nat.reduceDiv, Nat.reduceMod, Nat.reduceLT, Nat.reduceLeDiff, Nat.reduceEqDiff, Nat.reduceBEq, Nat.reduceBNe, Nat.reduceGT, Int.reduceAdd, Int.reduceSub, Int.reduceMul, Int.reduceNeg, Int.reduceLT, Int.reduceLE, Int.reduceEq, Int.reduceNe, Int.reduceBEq, Int.reduceBNe, Int.reduceToNat, Int.reduceGT, Int.reduceGE, ↓reduceIte, decide_true, decide_false, eq_self, Nat.mul_one, Nat.zero_mul, Nat.one_mul, Int.le_refl, Nat.le_refl, Int.cast_ofNat_Int, hlt, k64, s0, Int.toNat_natCast, hb, hd, Tr.cs, Sx.cs, Span.cs, w1, Bool.false_and]
        refine hI1 _ ⟨j + 1, by omega⟩ (by simp only; omega) ?_
        simp (decide := true) (maxSteps := 4000000) only [go_sem, Nat.reduceAdd, Nat.reduceSub, Nat.reduceMul, Nat.reduceDiv, Nat.reduceMod, Nat.reduceLT, Nat.reduceLeDiff, Nat.reduceEqDiff, Nat.reduceBEq, Nat.reduceBNe, Nat.reduceGT, Int.reduceAdd, Int.reduceSub, Int.reduceMul, Int.reduceNeg, Int.reduceLT, Int.reduceLE, Int.reduceEq, Int.reduceNe, Int.reduceBEq, Int.reduceBNe, Int.reduceToNat, Int.reduceGT, Int.reduceGE, ↓reduceIte, decide_true, decide_false, eq_self, Nat.mul_one, Nat.zero_mul, Nat.one_mul, Int.le_refl, Nat.le_refl, Int.cast_ofNat_Int, hc1, hnx, Sx.cs, Span.cs]
      | true =>
        have hse : selA l (setN (j + 1) set) = selA l (setN j set) ++ [p] := by rw [setN_t hb, selA_snoc hp]
        have hss := sumsN_snoc x (selA l (setN j set)) p k
        by_cases hak : p.a = (k : Int) * x.step
        · have hbq : (p.a == (k : Int) * x.step) = true := beq_int_t hak
          rw [if_pos (hkk.1 hak)] at hss
          obtain ⟨S, hS'⟩ : ∃ S, shs x p.s.toNat = S := ⟨_, rfl⟩
          have htr : trS x p = ⟨p.t - p.a - S.hi, p.t - p.a - S.lo⟩ := by unfold trS; rw [hS']
          rw [hS'] at hsb
          have hnx : bS x (selA l (setN (j + 1) set)) k = ⟨max (bS x (selA l (setN j set)) k).lo (p.t - p.a - S.hi), min (bS x (selA l (setN j set)) k).hi (p.t - p.a - S.lo)⟩ := by
            unfold bS; rw [hse, hss, bothOf_snoc, htr]
          have w2 : IntKind.i64.wrap (p.t - p.a) = p.t - p.a := wrap_in (by omega) (by omega)
          have w3 : IntKind.i64.wrap (p.t - p.a - S.hi) = p.t - p.a - S.hi := wrap_in (by omega) (by omega)
          have w4 : IntKind.i64.wrap (p.t - p.a - S.lo) = p.t - p.a - S.lo := wrap_in (by omega) (by omega)
          simp (decide := true) (maxSteps := 4000000) only [go_sem, Nat.reduceAdd, Nat.reduceSub, Nat.reduceMul, Nat.reduceDiv, Nat.reduceMod, Nat.reduceLT, Nat.reduceLeDiff, Nat.reduceEqDiff, Nat.reduceBEq, Nat.reduceBNe, Nat.reduceGT, Int.reduceAdd, Int.reduceSub, Int.reduceMul, Int.reduceNeg, Int.reduceLT, Int.reduceLE, Int.reduceEq, Int.reduceNe, Int.reduceBEq, Int.reduceBNe, Int.reduceToNat, Int.reduceGT, Int.reduceGE, ↓reduceIte, decide_true, decide_false, eq_self, Nat.mul_one, Nat.zero_mul, Nat.one_mul, Int.le_refl, Nat.le_refl, Int.cast_ofNat_Int, hlt, k64, s0, Int.toNat_natCast, hb, hd, Tr.cs, Sx.cs, Span.cs, Span.t, w1, Bool.true_and, hbq, rT, rS, e0, hv, hps0, hS', w2, w3, w4]
          refine hI1 _ ⟨j + 1, by omega⟩ (by simp only; omega) ?_
          simp (decide := true) (maxSteps := 4000000) only [go_sem, Nat.reduceAdd, Nat.reduceSub, Nat.reduceMul, Nat.reduceDiv, Nat.reduceMod, Nat.reduceLT, Nat.reduceLeDiff, Nat.reduceEqDiff, Nat.reduceBEq, Nat.reduceBNe, Nat.reduceGT, Int.reduceAdd, Int.reduceSub, Int.reduceMul, Int.reduceNeg, Int.reduceLT, Int.reduceLE, Int.reduceEq, Int.reduceNe, Int.reduceBEq, Int.reduceBNe, Int.reduceToNat, Int.reduceGT, Int.reduceGE, ↓reduceIte, decide_true, decide_false, eq_self, Nat.mul_one, Nat.zero_mul, Nat.one_mul, Int.le_refl, Nat.le_refl, Int.cast_ofNat_Int, hc1, hnx, Sx.cs, Span.cs]
        · have hbq : (p.a == (k : Int) * x.step) = false := beq_int_f hak
          rw [if_neg (fun e => hak (hkk.2 e))] at hss
          have hnx : bS x (selA l (setN (j + 1) set)) k = bS x (selA l (setN j set)) k := by unfold bS; rw [hse, hss]
          simp (decide := true) (maxSteps := 4000000) only [go_sem, Nat.reduceAdd, Nat.reduceSub, Nat.reduceMul, Nat.reduceDiv, Nat.reduceMod, Nat.reduceLT, Nat.reduceLeDiff, Nat.reduceEqDiff, Nat.reduceBEq, Nat.reduceBNe, Nat.reduceGT, Int.reduceAdd, Int.reduceSub, Int.reduceMul, Int.reduceNeg, Int.reduceLT, Int.reduceLE, Int.reduceEq, Int.reduceNe, Int.reduceBEq, Int.reduceBNe, Int.reduceToNat, Int.reduceGT, Int.reduceGE, ↓reduceIte, decide_true, decide_false, eq_self, Nat.mul_one, Nat.zero_mul, Nat.one_mul, Int.le_refl, Nat.le_refl, Int.cast_ofNat_Int, hlt, k64, s0, Int.toNat_natCast, hb, hd, Tr.cs, Sx.cs, Span.cs, w1, Bool.true_and, hbq]
          refine hI1 _ ⟨j + 1, by omega⟩ (by simp only; omega) ?_
          simp (decide := true) (maxSteps := 4000000) only [go_sem, Nat.reduceAdd, Nat.reduceSub, Nat.reduceMul, Nat.reduceDiv, Nat.reduceMod, Nat.reduceLT, Nat.reduceLeDiff, Nat.reduceEqDiff, Nat.reduceBEq, Nat.reduceBNe, Nat.reduceGT, Int.reduceAdd, Int.reduceSub, Int.reduceMul, Int.reduceNeg, Int.reduceLT, Int.reduceLE, Int.reduceEq, Int.reduceNe, Int.reduceBEq, Int.reduceBNe, Int.reduceToNat, Int.reduceGT, Int.reduceGE, ↓reduceIte, decide_true, decide_false, eq_self, Nat.mul_one, Nat.zero_mul, Nat.one_mul, Int.le_refl, Nat.le_refl, Int.cast_ofNat_Int, hc1, hnx, Sx.cs, Span.cs]
    · have hje : j = l.length := by omega
      subst hje
      simp (decide := true) (maxSteps := 4000000) only [go_sem, Nat.reduceAdd, Nat.reduceSub, Nat.reduceMul, Nat.reduceDiv, Nat.reduceMod, Nat.reduceLT, Nat.reduceLeDiff, Nat.reduceEqDiff, Nat.reduceBEq, Nat.reduceBNe, Nat.reduceGT, Int.reduceAdd, Int.reduceSub, Int.reduceMul, Int.reduceNeg, Int.reduceLT, Int.reduceLE, Int.reduceEq, Int.reduceNe, Int.reduceBEq, Int.reduceBNe, Int.reduceToNat, Int.reduceGT, Int.reduceGE, ↓reduceIte, decide_true, decide_false, eq_self, Nat.mul_one, Nat.zero_mul, Nat.one_mul, Int.le_refl, Nat.le_refl, Int.cast_ofNat_Int, hlt]
      refine hQ1 _ _ ?_
      simp (decide := true) (maxSteps := 4000000) only [go_sem, Nat.reduceAdd, Nat.reduceSub, Nat.reduceMul, Nat.reduceDiv, Nat.reduceMod, Nat.reduceLT, Nat.reduceLeDiff, Nat.reduceEqDiff, Nat.reduceBEq, Nat.reduceBNe, Nat.reduceGT, Int.reduceAdd, Int.reduceSub, Int.reduceMul, Int.reduceNeg, Int.reduceLT, Int.reduceLE, Int.reduceEq, Int.reduceNe, Int.reduceBEq, Int.reduceBNe, Int.reduceToNat, Int.reduceGT, Int.reduceGE, ↓reduceIte, decide_true, decide_false, eq_self, Nat.mul_one, Nat.zero_mul, Nat.one_mul, Int.le_refl, Nat.le_refl, Int.cast_ofNat_Int, setT, Span.t, Span.cs]
theorem rBothI_c (x : Sx) {sT sS : TV} (hT : IsRow Span.cs sT x.tab) (hS : IsRow Span.cs sS x.shade) (hv : sxOk x = true) {l : List Tr} {s : TV} (hs : IsRow Tr.cs s l) (hl : l.all (trB x) = true) (h8 : l.length ≤ 8) (h1 : 1 ≤ l.length) {set k : Int} (h0 : 0 ≤ set) (hk0 : 0 ≤ k) (hk : k < x.tab.length) : PCalls Try.prog 100 [x.t sT sS, s, .int .i64 set, .int .i64 k] (bS x (setT l set.toNat) k.toNat).t := by
  have := rBoth_c x hT hS hv hs hl h8 h1 set.toNat k.toNat (by omega)
  rwa [Int.toNat_of_nonneg h0, Int.toNat_of_nonneg hk0] at this
noncomputable def rxBoth : List TV → Option TV
  | [.agg [.int .i64 a0, sT, .int .i64 a1, .int .i64 a2, .int .i64 a3, sS], s, .int .i64 n, .int .i64 m] => match rowL unS sT, rowL unS sS, rowL unTr s with
    | some tab, some shade, some l => if sxOk (⟨a0, tab, ⟨a1, a2⟩, a3, shade⟩ : Sx) = true ∧ l.all (trB (⟨a0, tab, ⟨a1, a2⟩, a3, shade⟩ : Sx)) = true ∧ (1 ≤ l.length ∧ l.length ≤ 8) ∧ 0 ≤ n ∧ 0 ≤ m ∧ m < tab.length then some ((bS (⟨a0, tab, ⟨a1, a2⟩, a3, shade⟩ : Sx) (setT l n.toNat) m.toNat).t) else none
    | _, _, _ => none
  | _ => none
theorem rxBoth_ok : ∀ xs r, rxBoth xs = some r → PCalls Try.prog 100 xs r := by
  intro xs r h
  unfold rxBoth at h
  split at h
  · split at h
    · rename_i tab shade l hT hS hl
      have hT := rowL_some (un := unS) unS_nil (@unS_some) hT
      have hS := rowL_some (un := unS) unS_nil (@unS_some) hS
      have hl := rowL_some (un := unTr) unTr_nil (@unTr_some) hl
      split at h
      · rename_i hc; cases h; exact rBothI_c ⟨_, tab, ⟨_, _⟩, _, shade⟩ hT hS hc.1 hl hc.2.1 hc.2.2.1.2 hc.2.2.1.1 hc.2.2.2.1 hc.2.2.2.2.1 hc.2.2.2.2.2
      · cases h
    · cases h
  · cases h
attribute [go_sem] rxBoth
end Go.Proofs.Ytjmkccckohcfkaa

/- Part Rf. -/
namespace Go.Os
open Go Go.Pm Go.Oc Go.Oh
def nStep (x : Sx) (L : List Tr) (i : Span) (k : Nat) : Span := ⟨max i.lo ((bS x L k).lo - (atS x.tab k).hi), min i.hi ((bS x L k).hi - (atS x.tab k).lo)⟩
def nIdx (x : Sx) (L : List Tr) (k : Nat) : Span := (List.range k).foldl (nStep x L) x.idx
theorem nIdx_succ (x : Sx) (L : List Tr) (k : Nat) : nIdx x L (k + 1) = nStep x L (nIdx x L k) k := by unfold nIdx; rw [List.range_succ, List.foldl_append]; rfl
def nI' (x : Sx) (L : List Tr) : Span := nIdx x L x.tab.length
def nEl (x : Sx) (L : List Tr) (k : Nat) : Span := ⟨max (atS x.tab k).lo ((bS x L k).lo - (nI' x L).hi), min (atS x.tab k).hi ((bS x L k).hi - (nI' x L).lo)⟩
def nTab (x : Sx) (L : List Tr) (k : Nat) : List Span := (List.range k).map (nEl x L)
theorem nTab_succ (x : Sx) (L : List Tr) (k : Nat) : nTab x L (k + 1) = nTab x L k ++ [nEl x L k] := by unfold nTab; rw [List.range_succ, List.map_append]; rfl
theorem nTab_len (x : Sx) (L : List Tr) (k : Nat) : (nTab x L k).length = k := by simp [nTab]
/-- Can all of these trials be so? -/
def narOk (x : Sx) (L : List Tr) : Bool := (List.range x.tab.length).all (fun k => decide ((bS x L k).lo ≤ (bS x L k).hi)) && decide ((nI' x L).lo ≤ (nI' x L).hi)
def narT (x : Sx) (sT sS : TV) (L : List Tr) : TV := if narOk x L then .agg [.int .i64 x.step, .sl ((nTab x L x.tab.length).flatMap Span.cs) x.tab.length false, .int .i64 (nI' x L).lo, .int .i64 (nI' x L).hi, .int .i64 x.wrong, sS] else x.t sT sS
theorem nIdx_b {x : Sx} (h : GoodS x) {L : List Tr} (hl : L.all (trB x) = true) : ∀ k, k ≤ x.tab.length → (-2000000 ≤ (nIdx x L k).lo ∧ (nIdx x L k).lo ≤ 2000000) ∧ -2000000 ≤ (nIdx x L k).hi ∧ (nIdx x L k).hi ≤ 2000000
  | 0, _ => by have := h.idx; simp only [nIdx, List.range_zero, List.foldl_nil]; omega
  | k + 1, hk => by
    have ih := nIdx_b h hl k (by omega)
    have hb := bS_b h hl k
    have ht := h.tab _ (atS_mem (show k < x.tab.length by omega))
    rw [nIdx_succ]; unfold nStep; simp only; omega
/-- What the specification's Trial returns. -/
def trialR (x : Sx) (l : List Tr) : List Span × Span × Int :=
  if openedE x l = 0 then (if narOk x (setT l (2 ^ l.length - 1)) then (nTab x (setT l (2 ^ l.length - 1)) x.tab.length, nI' x (setT l (2 ^ l.length - 1)), 0) else ([], ⟨0, 0⟩, 54)) else ([], ⟨0, 0⟩, openedE x l)
def badR (x : Sx) (l : List Tr) (S : List Nat) : Bool := !narOk x (selA l S)
/-- What the specification's False returns. -/
def falseR (x : Sx) (l : List Tr) : List Nat × Int :=
  if openedE x l = 0 then (if refTo (badR x l) l.length (2 ^ l.length - 1) = [] then ([], 4) else (refTo (badR x l) l.length (2 ^ l.length - 1), 0)) else ([], openedE x l)
end Go.Os
namespace Go.Proofs.Ytjmkccckohcfkaa
open Go.RowKit Go.Pm Go.Oc Go.Oh Go.Os
set_option maxRecDepth 100000
set_option linter.unusedVariables false
set_option maxHeartbeats 8000000

noncomputable def spRg : Pm.Spec := noSpec.one 100 rxBoth
@[go_sem] theorem spRg_p (f : FuncId) (xs : List TV) : spRg.p f xs = Pm.Spec.p (noSpec.one 100 rxBoth) f xs := rfl
@[go_sem] theorem spRg_h (f : FuncId) (ps : List PV) (hl : List PO) : spRg.h f ps hl = Pm.Spec.h (noSpec.one 100 rxBoth) f ps hl := rfl
@[go_sem] theorem spRg_fz (f : FuncId) : spRg.fz f = Pm.Spec.fz (noSpec.one 100 rxBoth) f := rfl
@[go_sem] theorem spRg_fr (f : FuncId) : spRg.fr f = Pm.Spec.fr (noSpec.one 100 rxBoth) f := rfl
@[go_sem] theorem spRg_mu (t : TypeId) : spRg.mu t = Pm.Spec.mu (noSpec.one 100 rxBoth) t := rfl
@[go_sem] theorem spRg_nf (t : TypeId) : spRg.nf t = Pm.Spec.nf (noSpec.one 100 rxBoth) t := rfl
theorem spRg_ok : SpecOk Try.prog spRg := Spec.one_ok rxBoth_ok noSpec_ok
theorem rNarrowed_c (x : Sx) {sT sS : TV} (hT : IsRow Span.cs sT x.tab) (hS : IsRow Span.cs sS x.shade) (hv : sxOk x = true) {l : List Tr} {s : TV} (hs : IsRow Tr.cs s l) (hl : l.all (trB x) = true) (h8 : l.length ≤ 8) (h1 : 1 ≤ l.length) (set : Nat) :
    PCalls Try.prog 80 [x.t sT sS, s, .int .i64 set] (.tup [narT x sT sS (setT l set), .bool (narOk x (setT l set))]) := by
  have h := sxOk_iff.1 hv
  have rS := rowS_is hS
  have rs := rowTr_is hs
  unfold rowL at rS rs
  simp only [unS_nil] at rS
  simp only [unTr_nil] at rs
  have e0 : Sx.mk x.step x.tab ⟨x.idx.lo, x.idx.hi⟩ x.wrong x.shade = x := rfl
  obtain ⟨f, rfl⟩ := good_T h hT
  have hLl : (setT l set).all (trB x) = true := trs_sel hl _
  obtain ⟨L, hL⟩ : ∃ L, setT l set = L := ⟨_, rfl⟩
  rw [hL] at hLl
  have hlen := h.len
  have hbb := bS_b h hLl
  have hnb := nIdx_b h hLl
  have hset0 : (0 : Int) ≤ set := by omega
  have h18 : 1 ≤ l.length ∧ l.length ≤ 8 := ⟨h1, h8⟩
  refine pcalls_by Try.mixes spRg_ok (fn := Try.f80) Try.func80 rfl (by kernel_rfl) (by show 3 ≤ _; decide) ?_
  rw [hL]
  simp (decide := true) (maxSteps := 4000000) only [go_sem, Nat.reduceAdd, Nat.reduceSub, Nat.reduceMul, Nat.reduceDiv, Nat.reduceMod, Nat.reduceLT, Nat.reduceLeDiff, Nat.reduceEqDiff, Nat.reduceBEq, Nat.reduceBNe, Nat.reduceGT, Int.reduceAdd, Int.reduceSub, Int.reduceMul, Int.reduceNeg, Int.reduceLT, Int.reduceLE, Int.reduceEq, Int.reduceNe, Int.reduceBEq, Int.reduceBNe, Int.reduceToNat, Int.reduceGT, Int.reduceGE, ↓reduceIte, decide_true, decide_false, eq_self, Nat.mul_one, Nat.zero_mul, Nat.one_mul, Int.le_refl, Nat.le_refl, Int.cast_ofNat_Int, Try.f80, Sx.t, Sx.cs]
  refine pwpC_loopU (A := { k : Nat // k ≤ x.tab.length ∧ ∀ j, j < k → (bS x L j).lo ≤ (bS x L j).hi }) [1, 2, 3, 6, 7, 8] (fun k => [(9, .t (.int .i64 k.1))]) (fun k => [(2, .box ((nIdx x L k.1).cs.map .t))]) (fun k => x.tab.length - k.1) ⟨0, by omega, fun j hj => by omega⟩ (by decide) (fun _ => by rfl) ?_ fun Q1 hQ1 ⟨k, hk, hkk⟩ I1 hI1 => ?_
  · simp (decide := true) (maxSteps := 4000000) only [go_sem, Nat.reduceAdd, Nat.reduceSub, Nat.reduceMul, Nat.reduceDiv, Nat.reduceMod, Nat.reduceLT, Nat.reduceLeDiff, Nat.reduceEqDiff, Nat.reduceBEq, Nat.reduceBNe, Nat.reduceGT, Int.reduceAdd, Int.reduceSub, Int.reduceMul, Int.reduceNeg, Int.reduceLT, Int.reduceLE, Int.reduceEq, Int.reduceNe, Int.reduceBEq, Int.reduceBNe, Int.reduceToNat, Int.reduceGT, Int.reduceGE, ↓reduceIte, decide_true, decide_false, eq_self, Nat.mul_one, Nat.zero_mul, Nat.one_mul, Int.le_refl, Nat.le_refl, Int.cast_ofNat_Int, nIdx, List.range_zero, List.foldl_nil, Span.cs, Sx.cs]
  · by_cases hlt : (k : Int) < x.tab.length
    · have hkl : k < x.tab.length := by omega
      obtain ⟨t, ht⟩ := get_lt hlt
      have hd := flat_at Span.cs (n := 2) (fun _ => rfl) ht
      have het := atS_eq ht
      have htb := h.tab t (List.mem_of_getElem? ht)
      have hc1 : IntKind.i64.wrap (k + 1) = ((k + 1 : Nat) : Int) := by rw [wrap_in (by omega) (by omega)]; omega
      have hk0 : (0 : Int) ≤ k := by omega
      have hnx := nIdx_succ x L k
      unfold nStep at hnx
      rw [het] at hnx
      have hb := hbb k
      have hn := hnb k hk
      obtain ⟨B, hB⟩ : ∃ B, bS x L k = B := ⟨_, rfl⟩
      rw [hB] at hnx hb
      obtain ⟨I, hI⟩ : ∃ I, nIdx x L k = I := ⟨_, rfl⟩
      rw [hI] at hnx hn
      by_cases hgt : B.lo > B.hi
      · have hf : narOk x L = false := by
          unfold narOk
          rw [Bool.and_eq_false_iff]
          refine .inl ?_
          rw [List.all_eq_false]
          refine ⟨k, List.mem_range.2 hkl, ?_⟩
          rw [hB]; simp; omega
        simp (decide := true) (maxSteps := 4000000) only [go_sem, Nat.reduceAdd, Nat.reduceSub, Nat.reduceMul, Nat.reduceDiv, Nat.reduceMod, Nat.reduceLT, Nat.reduceLeDiff, Nat.reduceEqDiff, Nat.reduceBEq, Nat.reduceBNe, Nat.reduceGT, Int.reduceAdd, Int.reduceSub, Int.reduceMul, Int.reduceNeg, Int.reduceLT, Int.reduceLE, Int.reduceEq, Int.reduceNe, Int.reduceBEq, Int.reduceBNe, Int.reduceToNat, Int.reduceGT, Int.reduceGE, ↓reduceIte, decide_true, decide_false, eq_self, Nat.mul_one, Nat.zero_mul, Nat.one_mul, Int.le_refl, Nat.le_refl, Int.cast_ofNat_Int, hlt, Sx.cs, unS_eq, rS, rs, e0, hv, hl, h18, hset0, hk0, Int.toNat_natCast, hL, hB, hI, Span.t, Span.cs, hgt]
        refine hQ1 _ _ ?_
        simp (decide := true) (maxSteps := 4000000) only [go_sem, Nat.reduceAdd, Nat.reduceSub, Nat.reduceMul, Nat.reduceDiv, Nat.reduceMod, Nat.reduceLT, Nat.reduceLeDiff, Nat.reduceEqDiff, Nat.reduceBEq, Nat.reduceBNe, Nat.reduceGT, Int.reduceAdd, Int.reduceSub, Int.reduceMul, Int.reduceNeg, Int.reduceLT, Int.reduceLE, Int.reduceEq, Int.reduceNe, Int.reduceBEq, Int.reduceBNe, Int.reduceToNat, Int.reduceGT, Int.reduceGE, ↓reduceIte, decide_true, decide_false, eq_self, Nat.mul_one, Nat.zero_mul, Nat.one_mul, Int.le_refl, Nat.le_refl, Int.cast_ofNat_Int, hf, narT, Sx.t, Sx.cs]
      · have w1 : IntKind.i64.wrap (B.lo - t.hi) = B.lo - t.hi := wrap_in (by omega) (by omega)
        have w2 : IntKind.i64.wrap (B.hi - t.lo) = B.hi - t.lo := wrap_in (by omega) (by omega)
        simp (decide := true) (maxSteps := 4000000) only [go_sem, Nat.reduceAdd, Nat.reduceSub, Nat.reduceMul, Nat.reduceDiv, Nat.reduceMod, Nat.reduceLT, Nat.reduceLeDiff, Nat.reduceEqDiff, Nat.reduceBEq, Nat.reduceBNe, Nat.reduceGT, Int.reduceAdd, Int.reduceSub, Int.reduceMul, Int.reduceNeg, Int.reduceLT, Int.reduceLE, Int.reduceEq, Int.reduceNe, Int.reduceBEq, Int.reduceBNe, Int.reduceToNat, Int.reduceGT, Int.reduceGE, ↓reduceIte, decide_true, decide_false, eq_self, Nat.mul_one, Nat.zero_mul, Nat.one_mul, Int.le_refl, Nat.le_refl, Int.cast_ofNat_Int, hlt, Sx.cs, unS_eq, rS, rs, e0, hv, hl, h18, hset0, hk0, Int.toNat_natCast, hL, hB, hI, Span.t, Span.cs, hgt, hd, w1, w2]
        refine hI1 _ ⟨k + 1, by omega, fun j hj => ?_⟩ (by simp only; omega) ?_
        · by_cases e : j = k
          · subst e; rw [hB]; omega
          · exact hkk j (by omega)
        · simp (decide := true) (maxSteps := 4000000) only [go_sem, Nat.reduceAdd, Nat.reduceSub, Nat.reduceMul, Nat.reduceDiv, Nat.reduceMod, Nat.reduceLT, Nat.reduceLeDiff, Nat.reduceEqDiff, Nat.reduceBEq, Nat.reduceBNe, Nat.reduceGT, Int.reduceAdd, Int.reduceSub, Int.reduceMul, Int.reduceNeg, Int.reduceLT, Int.reduceLE, Int.reduceEq, Int.reduceNe, Int.reduceBEq, Int.reduceBNe, Int.reduceToNat, Int.reduceGT, Int.reduceGE, ↓reduceIte, decide_true, decide_false, eq_self, Nat.mul_one, Nat.zero_mul, Nat.one_mul, Int.le_refl, Nat.le_refl, Int.cast_ofNat_Int, hc1, hnx, Sx.cs, Span.cs]
    · have hke : k = x.tab.length := by omega
      subst hke
      have hall : ((List.range x.tab.length).all fun k => decide ((bS x L k).lo ≤ (bS x L k).hi)) = true := List.all_eq_true.2 fun j hj => decide_eq_true (hkk j (List.mem_range.1 hj))
      have hno : narOk x L = decide ((nI' x L).lo ≤ (nI' x L).hi) := by unfold narOk; rw [hall, Bool.true_and]
      have hn : (-2000000 ≤ (nI' x L).lo ∧ (nI' x L).lo ≤ 2000000) ∧ -2000000 ≤ (nI' x L).hi ∧ (nI' x L).hi ≤ 2000000 := hnb x.tab.length (Nat.le_refl _)
      have hni : nIdx x L x.tab.length = nI' x L := rfl
      have hel : ∀ k, nEl x L k = ⟨max (atS x.tab k).lo ((bS x L k).lo - (nI' x L).hi), min (atS x.tab k).hi ((bS x L k).hi - (nI' x L).lo)⟩ := fun _ => rfl
      simp (decide := true) (maxSteps := 4000000) only [go_sem, Nat.reduceAdd, Nat.reduceSub, Nat.reduceMul, Nat.reduceDiv, Nat.reduceMod, Nat.reduceLT, Nat.reduceLeDiff, Nat.reduceEqDiff, Nat.reduceBEq, Nat.reduceBNe, Nat.reduceGT, Int.reduceAdd, Int.reduceSub, Int.reduceMul, Int.reduceNeg, Int.reduceLT, Int.reduceLE, Int.reduceEq, Int.reduceNe, Int.reduceBEq, Int.reduceBNe, Int.reduceToNat, Int.reduceGT, Int.reduceGE, ↓reduceIte, decide_true, decide_false, eq_self, Nat.mul_one, Nat.zero_mul, Nat.one_mul, Int.le_refl, Nat.le_refl, Int.cast_ofNat_Int, hlt]
      refine hQ1 _ _ ?_
      rw [hni]
      obtain ⟨I, hI⟩ : ∃ I, nI' x L = I := ⟨_, rfl⟩
      rw [hI] at hno hn hel ⊢
      by_cases hgt : I.lo > I.hi
      · have hf : narOk x L = false := by rw [hno]; exact decide_eq_false (by omega)
        simp (decide := true) (maxSteps := 4000000) only [go_sem, Nat.reduceAdd, Nat.reduceSub, Nat.reduceMul, Nat.reduceDiv, Nat.reduceMod, Nat.reduceLT, Nat.reduceLeDiff, Nat.reduceEqDiff, Nat.reduceBEq, Nat.reduceBNe, Nat.reduceGT, Int.reduceAdd, Int.reduceSub, Int.reduceMul, Int.reduceNeg, Int.reduceLT, Int.reduceLE, Int.reduceEq, Int.reduceNe, Int.reduceBEq, Int.reduceBNe, Int.reduceToNat, Int.reduceGT, Int.reduceGE, ↓reduceIte, decide_true, decide_false, eq_self, Nat.mul_one, Nat.zero_mul, Nat.one_mul, Int.le_refl, Nat.le_refl, Int.cast_ofNat_Int, hgt, hf, narT, Sx.t, Sx.cs, Span.cs]
      · have hf : narOk x L = true := by rw [hno]; exact decide_eq_true (by omega)
        simp (decide := true) (maxSteps := 4000000) only [go_sem, Nat.reduceAdd, Nat.reduceSub, Nat.reduceMul, Nat.reduceDiv, Nat.reduceMod, Nat.reduceLT, Nat.reduceLeDiff, Nat.reduceEqDiff, Nat.reduceBEq, Nat.reduceBNe, Nat.reduceGT, Int.reduceAdd, Int.reduceSub, Int.reduceMul, Int.reduceNeg, Int.reduceLT, Int.reduceLE, Int.reduceEq, Int.reduceNe, Int.reduceBEq, Int.reduceBNe, Int.reduceToNat, Int.reduceGT, Int.reduceGE, ↓reduceIte, decide_true, decide_false, eq_self, Nat.mul_one, Nat.zero_mul, Nat.one_mul, Int.le_refl, Nat.le_refl, Int.cast_ofNat_Int, hgt, Span.cs, Sx.cs]
        refine pwpC_loopU (A := { k : Nat // k ≤ x.tab.length }) [1, 2, 3, 6, 7, 8] (fun k => [(12, .t (.int .i64 k.1)), (11, .own ((nTab x L k.1).flatMap Span.cs) k.1 3)]) (fun k => [(3, .tok k.1 24)]) (fun k => x.tab.length - k.1) ⟨0, by omega⟩ (by decide) (fun _ => by rfl) ?_ fun Q2 hQ2 ⟨k, hk⟩ I2 hI2 => ?_
        · simp (decide := true) (maxSteps := 4000000) only [go_sem, Nat.reduceAdd, Nat.reduceSub, Nat.reduceMul, Nat.reduceDiv, Nat.reduceMod, Nat.reduceLT, Nat.reduceLeDiff, Nat.reduceEqDiff, Nat.reduceBEq, Nat.reduceBNe, Nat.reduceGT, Int.reduceAdd, Int.reduceSub, Int.reduceMul, Int.reduceNeg, Int.reduceLT, Int.reduceLE, Int.reduceEq, Int.reduceNe, Int.reduceBEq, Int.reduceBNe, Int.reduceToNat, Int.reduceGT, Int.reduceGE, ↓reduceIte, decide_true, decide_false, eq_self, Nat.mul_one, Nat.zero_mul, Nat.one_mul, Int.le_refl, Nat.le_refl, Int.cast_ofNat_Int, nTab, List.range_zero, List.map_nil]
        · by_cases hlt : (k : Int) < x.tab.length
          · have hkl : k < x.tab.length := by omega
            obtain ⟨t, ht⟩ := get_lt hlt
            have hd := flat_at Span.cs (n := 2) (fun _ => rfl) ht
            have het := atS_eq ht
            have htb := h.tab t (List.mem_of_getElem? ht)
            have hc1 : IntKind.i64.wrap (k + 1) = ((k + 1 : Nat) : Int) := by rw [wrap_in (by omega) (by omega)]; omega
            have hk0 : (0 : Int) ≤ k := by omega
            have hb := hbb k
            have hnx := nTab_succ x L k
            have hek := hel k
            rw [het] at hek
            obtain ⟨B, hB⟩ : ∃ B, bS x L k = B := ⟨_, rfl⟩
            rw [hB] at hek hb
            have w1 : IntKind.i64.wrap (B.lo - I.hi) = B.lo - I.hi := wrap_in (by omega) (by omega)
            have w2 : IntKind.i64.wrap (B.hi - I.lo) = B.hi - I.lo := wrap_in (by omega) (by omega)
            have hfl : (List.flatMap Span.cs (nTab x L k)).length = k * 2 := by rw [flat_len Span.cs (n := 2) (fun _ => rfl), nTab_len]
            have hr : (k + 1) * 16 ≤ 140737488355328 := by omega
            simp (decide := true) (maxSteps := 4000000) only [go_sem, Nat.reduceAdd, Nat.reduceSub, Nat.reduceMul, Nat.reduceDiv, Nat.reduceMod, Nat.reduceLT, Nat.reduceLeDiff, Nat.reduceEqDiff, Nat.reduceBEq, Nat.reduceBNe, Nat.reduceGT, Int.reduceAdd, Int.reduceSub, Int.reduceMul, Int.reduceNeg, Int.reduceLT, Int.reduceLE, Int.reduceEq, Int.reduceNe, Int.reduceBEq, Int.reduceBNe, Int.reduceToNat, Int.reduceGT, Int.reduceGE, ↓reduceIte, decide_true, decide_false, eq_self, Nat.mul_one, Nat.zero_mul, Nat.one_mul, Int.le_refl, Nat.le_refl, Int.cast_ofNat_Int, hlt, Sx.cs, unS_eq, rS, rs, e0, hv, hl, h18, hset0, hk0, Int.toNat_natCast, hL, hB, Span.t, Span.cs, hd, w1, w2, hfl, hr]
            refine hI2 _ ⟨k + 1, by omega⟩ (by simp only; omega) ?_
            simp (decide := true) (maxSteps := 4000000) only [go_sem, Nat.reduceAdd, Nat.reduceSub, Nat.reduceMul, Nat.reduceDiv, Nat.reduceMod, Nat.reduceLT, Nat.reduceLeDiff, Nat.reduceEqDiff, Nat.reduceBEq, Nat.reduceBNe, Nat.reduceGT, Int.reduceAdd, Int.reduceSub, Int.reduceMul, Int.reduceNeg, Int.reduceLT, Int.reduceLE, Int.reduceEq, Int.reduceNe, Int.reduceBEq, Int.reduceBNe, Int.reduceToNat, Int.reduceGT, Int.reduceGE, ↓reduceIte, decide_true, decide_false, eq_self, Nat.mul_one, Nat.zero_mul, Nat.one_mul, Int.le_refl, Nat.le_refl, Int.cast_ofNat_Int, hc1, hnx, List.flatMap_append, hek, Sx.cs, Span.cs]
          · have hke : k = x.tab.length := by omega
            subst hke
            have hn0 : ¬ x.tab.length = 0 := by omega
            simp (decide := true) (maxSteps := 4000000) only [go_sem, Nat.reduceAdd, Nat.reduceSub, Nat.reduceMul, Nat.reduceDiv, Nat.reduceMod, Nat.reduceLT, Nat.reduceLeDiff, Nat.reduceEqDiff, Nat.reduceBEq, Nat.reduceBNe, Nat.reduceGT, Int.reduceAdd, Int.reduceSub, Int.reduceMul, Int.reduceNeg, Int.reduceLT, Int.reduceLE, Int.reduceEq, Int.reduceNe, Int.reduceBEq, Int.reduceBNe, Int.reduceToNat, Int.reduceGT, Int.reduceGE, ↓reduceIte, decide_true, decide_false, eq_self, Nat.mul_one, Nat.zero_mul, Nat.one_mul, Int.le_refl, Nat.le_refl, Int.cast_ofNat_Int, hlt]
            refine hQ2 _ _ ?_
            simp (decide := true) (maxSteps := 4000000) only [go_sem, Nat.reduceAdd, Nat.reduceSub, Nat.reduceMul, Nat.reduceDiv, Nat.reduceMod, Nat.reduceLT, Nat.reduceLeDiff, Nat.reduceEqDiff, Nat.reduceBEq, Nat.reduceBNe, Nat.reduceGT, Int.reduceAdd, Int.reduceSub, Int.reduceMul, Int.reduceNeg, Int.reduceLT, Int.reduceLE, Int.reduceEq, Int.reduceNe, Int.reduceBEq, Int.reduceBNe, Int.reduceToNat, Int.reduceGT, Int.reduceGE, ↓reduceIte, decide_true, decide_false, eq_self, Nat.mul_one, Nat.zero_mul, Nat.one_mul, Int.le_refl, Nat.le_refl, Int.cast_ofNat_Int, hf, narT, hI, hn0, Sx.t, Sx.cs, Span.cs]
            done
end Go.Proofs.Ytjmkccckohcfkaa

/- Part Sv. -/
namespace Go.Os
open Go Go.Pm Go.Oc Go.Oh
theorem mem_acc (i v : Int) : ∀ (L : List Span) (c : Span), ((accS i c L).lo ≤ v ∧ v ≤ (accS i c L).hi) ↔ (c.lo ≤ v ∧ v ≤ c.hi) ∧ ∀ s ∈ L, s.lo - i ≤ v ∧ v ≤ s.hi - i
  | [], c => by simp [accS]
  | s :: L, c => by
    have ih := mem_acc i v L ⟨max c.lo (s.lo - i), min c.hi (s.hi - i)⟩
    have e : accS i c (s :: L) = accS i ⟨max c.lo (s.lo - i), min c.hi (s.hi - i)⟩ L := rfl
    rw [e, ih]
    simp only [List.mem_cons, forall_eq_or_imp]
    have : (max c.lo (s.lo - i) ≤ v ∧ v ≤ min c.hi (s.hi - i)) ↔ (c.lo ≤ v ∧ v ≤ c.hi) ∧ s.lo - i ≤ v ∧ v ≤ s.hi - i := by omega
    rw [this, and_assoc]
theorem acc_both (i : Int) (c0 : Span) : ∀ (L : List Span) (a c : Span), c.lo = max c0.lo (a.lo - i) → c.hi = min c0.hi (a.hi - i) →
    accS i c L = ⟨max c0.lo ((L.foldl (fun (a s : Span) => (⟨max a.lo s.lo, min a.hi s.hi⟩ : Span)) a).lo - i), min c0.hi ((L.foldl (fun (a s : Span) => (⟨max a.lo s.lo, min a.hi s.hi⟩ : Span)) a).hi - i)⟩
  | [], a, c, h1, h2 => by
    obtain ⟨c1, c2⟩ := c
    simp only at h1 h2
    simp only [accS, List.foldl_nil]
    rw [h1, h2]
  | s :: L, a, c, h1, h2 => by
    have e : accS i c (s :: L) = accS i ⟨max c.lo (s.lo - i), min c.hi (s.hi - i)⟩ L := rfl
    rw [e, List.foldl_cons]
    exact acc_both i c0 L _ _ (by simp only; omega) (by simp only; omega)
/-- A table that is left, by what all sums of its trials leave. -/
theorem tabK_both {x : Sx} (h : GoodS x) (L : List Tr) {i : Int} (hi : -1800 ≤ i ∧ i ≤ 1800) {k : Nat} (hk : k < x.tab.length) : tabK x L i k = ⟨max (atS x.tab k).lo ((bS x L k).lo - i), min (atS x.tab k).hi ((bS x L k).hi - i)⟩ := by
  have ht := h.tab _ (atS_mem hk)
  exact acc_both i (atS x.tab k) (sumsN x L k) ⟨-1000000, 1000000⟩ (atS x.tab k) (by simp only; omega) (by simp only; omega)
theorem okT_iff {x : Sx} (h : GoodS x) (L : List Tr) {i : Int} (hi : -1800 ≤ i ∧ i ≤ 1800) : okT x L i = true ↔ ∀ k, k < x.tab.length → (bS x L k).lo ≤ (bS x L k).hi ∧ (bS x L k).lo - (atS x.tab k).hi ≤ i ∧ i ≤ (bS x L k).hi - (atS x.tab k).lo := by
  unfold okT
  rw [List.all_eq_true]
  constructor
  · intro hh k hk
    have := hh k (List.mem_range.2 hk)
    rw [decide_eq_true_eq, tabK_both h L hi hk] at this
    simp only at this
    have ht := h.tab _ (atS_mem hk)
    omega
  · intro hh k hk
    have hk := List.mem_range.1 hk
    have := hh k hk
    rw [decide_eq_true_eq, tabK_both h L hi hk]
    simp only
    have ht := h.tab _ (atS_mem hk)
    omega
theorem mem_nIdx (x : Sx) (L : List Tr) (i : Int) : ∀ k, ((nIdx x L k).lo ≤ i ∧ i ≤ (nIdx x L k).hi) ↔ (x.idx.lo ≤ i ∧ i ≤ x.idx.hi) ∧ ∀ j, j < k → (bS x L j).lo - (atS x.tab j).hi ≤ i ∧ i ≤ (bS x L j).hi - (atS x.tab j).lo
  | 0 => by simp [nIdx]
  | k + 1 => by
    have ih := mem_nIdx x L i k
    rw [nIdx_succ]
    unfold nStep
    simp only
    constructor
    · intro hh
      obtain ⟨a, b⟩ := ih.1 ⟨by omega, by omega⟩
      refine ⟨a, fun j hj => ?_⟩
      by_cases e : j = k
      · subst e; omega
      · exact b j (by omega)
    · rintro ⟨a, b⟩
      have u := ih.2 ⟨a, fun j hj => b j (by omega)⟩
      have v := b k (by omega)
      omega
/-- With which index errors all trials can be so. -/
theorem okT_nar {x : Sx} (h : GoodS x) (L : List Tr) {i : Int} (hi : x.idx.lo ≤ i ∧ i ≤ x.idx.hi) : okT x L i = true ↔ (∀ k, k < x.tab.length → (bS x L k).lo ≤ (bS x L k).hi) ∧ (nI' x L).lo ≤ i ∧ i ≤ (nI' x L).hi := by
  have hx := h.idx
  rw [okT_iff h L (by omega)]
  unfold nI'
  rw [mem_nIdx]
  exact ⟨fun hh => ⟨fun k hk => (hh k hk).1, hi, fun k hk => (hh k hk).2⟩, fun ⟨a, _, b⟩ k hk => ⟨a k hk, b k hk⟩⟩
theorem narOk_iff {x : Sx} {L : List Tr} : narOk x L = true ↔ (∀ k, k < x.tab.length → (bS x L k).lo ≤ (bS x L k).hi) ∧ (nI' x L).lo ≤ (nI' x L).hi := by
  unfold narOk
  rw [Bool.and_eq_true, List.all_eq_true, decide_eq_true_eq]
  exact ⟨fun hh => ⟨fun k hk => by have := hh.1 k (List.mem_range.2 hk); simpa using this, hh.2⟩, fun hh => ⟨fun k hk => decide_eq_true (hh.1 k (List.mem_range.1 hk)), hh.2⟩⟩
theorem nI_in {x : Sx} {L : List Tr} (h : (nI' x L).lo ≤ (nI' x L).hi) : x.idx.lo ≤ (nI' x L).lo ∧ (nI' x L).hi ≤ x.idx.hi := by
  have a := ((mem_nIdx x L (nI' x L).lo x.tab.length).1 ⟨Int.le_refl _, h⟩).1
  have b := ((mem_nIdx x L (nI' x L).hi x.tab.length).1 ⟨h, Int.le_refl _⟩).1
  exact ⟨a.1, b.2⟩
theorem narOk_ex {x : Sx} (h : GoodS x) (L : List Tr) : narOk x L = true ↔ ∃ i, (x.idx.lo ≤ i ∧ i ≤ x.idx.hi) ∧ okT x L i = true := by
  rw [narOk_iff]
  constructor
  · rintro ⟨a, b⟩
    have c := nI_in b
    refine ⟨(nI' x L).lo, by omega, (okT_nar h L (by omega)).2 ⟨a, Int.le_refl _, b⟩⟩
  · rintro ⟨i, hi, ho⟩
    obtain ⟨a, b⟩ := (okT_nar h L hi).1 ho
    exact ⟨a, by omega⟩
theorem cntT_pos {p : Nat → Bool} {N : Nat} : 0 < cntT p N ↔ ∃ j, j < N ∧ p j = true := by
  unfold cntT
  rw [List.length_pos_iff_exists_mem]
  exact ⟨fun ⟨j, hj⟩ => ⟨j, List.mem_range.1 (List.mem_filter.1 hj).1, (List.mem_filter.1 hj).2⟩, fun ⟨j, h1, h2⟩ => ⟨j, List.mem_filter.2 ⟨List.mem_range.2 h1, h2⟩⟩⟩
theorem cnt_nar {x : Sx} (h : GoodS x) (L : List Tr) : decide (0 < cntT (okI x L) (idxN x)) = narOk x L := by
  rw [Bool.eq_iff_iff, decide_eq_true_eq, cntT_pos, narOk_ex h]
  constructor
  · rintro ⟨j, hj, hp⟩
    exact ⟨x.idx.lo + (j : Int), by unfold idxN at hj; omega, hp⟩
  · rintro ⟨i, hi, hp⟩
    refine ⟨(i - x.idx.lo).toNat, by unfold idxN; omega, ?_⟩
    unfold okI
    rw [show x.idx.lo + ((i - x.idx.lo).toNat : Int) = i by omega]; exact hp
theorem noAt_nil {x : Sx} (h : GoodS x) {L : List Tr} (hl : L.all (trB x) = true) (hn : noAt x L = true) : L = [] := by
  cases L with
  | nil => rfl
  | cons p L =>
    have hp := List.all_eq_true.1 hl p (by simp)
    have hk := (trK_lt h hp).1
    unfold noAt at hn
    rw [Bool.not_eq_true', List.any_eq_false] at hn
    have := hn (trK x p) (List.mem_range.2 hk)
    unfold atN at this
    simp at this
/-- Whether trials can be made: both say the same. -/
theorem can_nar {x : Sx} (h : GoodS x) {L : List Tr} (hl : L.all (trB x) = true) : canB x L = narOk x L := by
  unfold canB
  rw [cnt_nar h]
  cases hn : noAt x L with
  | false => rfl
  | true =>
    have := noAt_nil h hl hn
    subst this
    rw [Bool.true_or]
    symm
    rw [narOk_ex h]
    have hi := h.idx
    refine ⟨x.idx.lo, by omega, ?_⟩
    unfold okT
    rw [List.all_eq_true]
    intro k hk
    rw [decide_eq_true_eq]
    have ht := h.tab _ (atS_mem (List.mem_range.1 hk))
    have e : tabK x [] x.idx.lo k = atS x.tab k := rfl
    rw [e]; omega
theorem bad_same {x : Sx} (h : GoodS x) {l : List Tr} (hl : l.all (trB x) = true) : badC x l = badR x l := by
  funext S
  unfold badC badR
  rw [can_nar h (trs_sel hl S)]
theorem sums_sub {x : Sx} {l L : List Tr} (hs : ∀ p ∈ L, p ∈ l) {k : Nat} {s : Span} (h : s ∈ sumsN x L k) : s ∈ sumsN x l k := by
  unfold sumsN at h ⊢
  obtain ⟨p, hp, rfl⟩ := List.mem_map.1 h
  have := List.mem_filter.1 hp
  exact List.mem_map.2 ⟨p, List.mem_filter.2 ⟨hs p this.1, this.2⟩, rfl⟩
/-- Fewer trials can be made, too. -/
theorem nar_sub {x : Sx} (h : GoodS x) {l L : List Tr} (hs : ∀ p ∈ L, p ∈ l) (ho : narOk x l = true) : narOk x L = true := by
  rw [narOk_ex h] at ho ⊢
  obtain ⟨i, hi, ho⟩ := ho
  refine ⟨i, hi, ?_⟩
  unfold okT at ho ⊢
  rw [List.all_eq_true] at ho ⊢
  intro k hk
  have := ho k hk
  rw [decide_eq_true_eq] at this ⊢
  have hm := (mem_acc i (tabK x l i k).lo (sumsN x l k) (atS x.tab k)).1 ⟨Int.le_refl _, this⟩
  have hm' := (mem_acc i (tabK x l i k).lo (sumsN x L k) (atS x.tab k)).2 ⟨hm.1, fun s hs' => hm.2 s (sums_sub hs hs')⟩
  unfold tabK
  unfold tabK at hm'
  omega
theorem setN_all (n : Nat) : setN n (2 ^ n - 1) = List.range n := by
  unfold setN
  rw [List.filter_eq_self]
  intro i hi
  rw [Nat.testBit_two_pow_sub_one]
  exact decide_eq_true (List.mem_range.1 hi)
theorem setT_all (l : List Tr) : setT l (2 ^ l.length - 1) = l := by unfold setT; rw [setN_all, selA_range]
/-- False: both say the same. -/
theorem false_same (x : Sx) (l : List Tr) : falseR x l = falseP x l := by
  unfold falseR falseP
  by_cases hE : openedE x l = 0
  · rw [if_pos hE, if_pos hE]
    unfold openedE at hE
    cases hv : sxOk x with
    | false => rw [hv] at hE; cases hE
    | true =>
      rw [hv, if_pos rfl] at hE
      have htr : trsOk x l = true := by
        cases ht : trsOk x l with
        | true => rfl
        | false => rw [ht] at hE; cases hE
      have h := sxOk_iff.1 hv
      unfold trsOk at htr
      rw [Bool.and_eq_true, inB_iff] at htr
      have hl := htr.2
      have hrange : selA l (List.range l.length) = l := selA_range l
      rw [← bad_same h hl]
      rcases searches (badC x l) l.length with ⟨e1, e2, e3⟩ | ⟨e1, S, hS, e2, e3⟩
      · rw [if_pos e2]
        have := e3 (List.range l.length) (row_all _) (by intro e; have := congrArg List.length e; simp at this; rw [this] at htr; simp at htr)
        unfold badC at this
        rw [hrange] at this
        rw [if_pos (by simpa using this)]
      · rw [e3, if_neg hS.ne, e2]
        have hb := hS.isBad
        unfold badC at hb
        rw [can_nar h (trs_sel hl S)] at hb
        have : canB x l = false := by
          rw [can_nar h hl]
          cases hn : narOk x l with
          | false => rfl
          | true =>
            rw [nar_sub h (fun p hp => selA_sub hp) hn] at hb
            cases hb
        rw [this]; rfl
  · rw [if_neg hE, if_neg hE]
end Go.Os

/- Part Sw. -/
namespace Go.Os
open Go Go.Pm Go.Oc Go.Oh
theorem tabsV_lenN (x : Sx) (l : List Tr) : (tabsV x l).length = (tabsN x l).length := by unfold tabsV tabsN; rw [List.length_map]
theorem trIx_eq {x : Sx} {l : List Tr} {j n : Nat} (h : (tabsN x l)[j]? = some n) : trIx x l j = x.idx.lo + (n : Int) := by
  unfold trIx; rw [List.getD_eq_getElem?_getD, h]; rfl
theorem trIx_in {x : Sx} {l : List Tr} {j : Nat} (h : j < (tabsN x l).length) : okT x l (trIx x l j) = true ∧ x.idx.lo ≤ trIx x l j ∧ trIx x l j ≤ x.idx.hi := by
  have hj := List.getElem?_eq_getElem h
  have hm := List.mem_of_getElem? hj
  rw [trIx_eq hj]
  have hm' := List.mem_filter.1 hm
  have := List.mem_range.1 hm'.1
  refine ⟨hm'.2, by omega, ?_⟩
  unfold idxN at this; omega
theorem trIx_all {x : Sx} {l : List Tr} {i : Int} (hi : x.idx.lo ≤ i ∧ i ≤ x.idx.hi) (ho : okT x l i = true) : ∃ j, j < (tabsN x l).length ∧ trIx x l j = i := by
  have hm : (i - x.idx.lo).toNat ∈ tabsN x l := by
    unfold tabsN
    refine List.mem_filter.2 ⟨List.mem_range.2 (by unfold idxN; omega), ?_⟩
    unfold okI
    rw [show x.idx.lo + ((i - x.idx.lo).toNat : Int) = i by omega]; exact ho
  obtain ⟨j, hj, e⟩ := List.mem_iff_getElem.1 hm
  refine ⟨j, hj, ?_⟩
  rw [trIx_eq (List.getElem?_eq_getElem hj), e]; omega
theorem trIdx_hull (x : Sx) (l : List Tr) : ∀ k, Hull (decide (k = 0)) (trIdx x l k) (fun i => ∃ j, j < k ∧ trIx x l j = i)
  | 0 => .inl ⟨rfl, fun z ⟨j, h, _⟩ => by omega⟩
  | k + 1 => by
    have ih := hull_add (trIdx_hull x l k) (trIx x l k)
    have e : trIdx x l (k + 1) = widerS (trIdx x l k) (trIx x l k) (decide (k = 0)) := rfl
    rw [e, decide_eq_false (show ¬ k + 1 = 0 by omega)]
    refine hull_same ih fun z => ?_
    constructor
    · rintro ⟨j, h, rfl⟩
      by_cases e : j = k
      · subst e; exact .inr rfl
      · exact .inl ⟨j, by omega, rfl⟩
    · rintro (⟨j, h, rfl⟩ | rfl)
      · exact ⟨j, by omega, rfl⟩
      · exact ⟨k, by omega, rfl⟩
theorem hull_wid2 {a c : Span} {Q : Int → Prop} (h : Hull false a Q) (hc : c.lo ≤ c.hi) : Hull false (wid2 a c) (fun v => Q v ∨ (c.lo ≤ v ∧ v ≤ c.hi)) := by
  unfold wid2
  split
  · rename_i e
    subst e
    rcases h with ⟨he, _⟩ | ⟨_, h1, h2, h3⟩
    · cases he
    · refine .inr ⟨rfl, .inl h1, .inl h2, fun z hz => ?_⟩
      rcases hz with hz | hz
      · exact h3 z hz
      · exact hz
  · exact hull_span h hc
theorem atS_zip {B T : List Span} {k : Nat} (h1 : k < B.length) (h2 : k < T.length) : atS (zipW B T) k = wid2 (atS B k) (atS T k) := by
  have e1 := List.getElem?_eq_getElem h1
  have e2 := List.getElem?_eq_getElem h2
  rw [atS_eq e1, atS_eq e2]
  apply atS_eq
  unfold zipW
  rw [List.getElem?_zipWith, e1, e2]
theorem atS_tabR {x : Sx} {l : List Tr} {i : Int} {k : Nat} (h : k < x.tab.length) : atS (tabR x l i) k = tabK x l i k := by
  apply atS_eq; unfold tabR; rw [List.getElem?_map, List.getElem?_range h]; rfl
theorem okT_ne {x : Sx} {l : List Tr} {i : Int} (h : okT x l i = true) {k : Nat} (hk : k < x.tab.length) : (tabK x l i k).lo ≤ (tabK x l i k).hi := by
  unfold okT at h
  have := List.all_eq_true.1 h k (List.mem_range.2 hk)
  simpa using this
theorem trLeft_hull {x : Sx} {l : List Tr} {k : Nat} (hk : k < x.tab.length) : ∀ n, n < (tabsN x l).length → Hull false (atS (trLeft x l (n + 1)) k) (fun v => ∃ j, j < n + 1 ∧ (tabK x l (trIx x l j) k).lo ≤ v ∧ v ≤ (tabK x l (trIx x l j) k).hi)
  | 0, hn => by
    have hne := okT_ne (trIx_in hn).1 hk
    have e : trLeft x l 1 = zipW (tabR x l (trIx x l 0)) (tabR x l (trIx x l 0)) := rfl
    rw [e, zipW_self, atS_tabR hk]
    refine .inr ⟨rfl, ⟨0, by omega, Int.le_refl _, hne⟩, ⟨0, by omega, hne, Int.le_refl _⟩, fun z ⟨j, hj, hz⟩ => ?_⟩
    have : j = 0 := by omega
    subst this; exact hz
  | n + 1, hn => by
    have ih := trLeft_hull (x := x) (l := l) hk n (by omega)
    have hne := okT_ne (trIx_in hn).1 hk
    have e : trLeft x l (n + 1 + 1) = zipW (trLeft x l (n + 1)) (tabR x l (trIx x l (n + 1))) := by rw [trLeft, if_neg (by omega)]
    rw [e, atS_zip (by rw [trLeft_len]; exact hk) (by rw [tabR_len]; exact hk), atS_tabR hk]
    refine hull_same (hull_wid2 ih hne) fun z => ?_
    constructor
    · rintro ⟨j, h, hz⟩
      by_cases e : j = n + 1
      · subst e; exact .inr hz
      · exact .inl ⟨j, by omega, hz⟩
    · rintro (⟨j, h, hz⟩ | hz)
      · exact ⟨j, by omega, hz⟩
      · exact ⟨n + 1, by omega, hz⟩
theorem atS_nTab {x : Sx} {L : List Tr} {k : Nat} (h : k < x.tab.length) : atS (nTab x L x.tab.length) k = nEl x L k := by
  apply atS_eq; unfold nTab; rw [List.getElem?_map, List.getElem?_range h]; rfl
theorem ext_atS {a b : List Span} (h : a.length = b.length) (hk : ∀ k, k < a.length → atS a k = atS b k) : a = b := by
  refine List.ext_getElem h fun k h1 h2 => ?_
  have := hk k h1
  rw [atS_eq (List.getElem?_eq_getElem h1), atS_eq (List.getElem?_eq_getElem h2)] at this
  exact this
/-- Trial: both say the same. -/
theorem trial_same (x : Sx) (l : List Tr) : trialR x l = trialP x l := by
  unfold trialR trialP
  by_cases hE : openedE x l = 0
  · rw [if_pos hE, if_pos hE, setT_all]
    unfold openedE at hE
    cases hv : sxOk x with
    | false => rw [hv] at hE; cases hE
    | true =>
      have h := sxOk_iff.1 hv
      have hi := h.idx
      have hlen := h.len
      rw [tabsV_lenN]
      cases hn : narOk x l with
      | false =>
        have : (tabsN x l).length = 0 := by
          rcases Nat.eq_zero_or_pos (tabsN x l).length with h0 | h0
          · exact h0
          · obtain ⟨h1, h2⟩ := trIx_in h0
            rw [(narOk_ex h l).2 ⟨_, h2, h1⟩] at hn; cases hn
        rw [if_neg (by simp), if_pos this]
      | true =>
        obtain ⟨i, hii, ho⟩ := (narOk_ex h l).1 hn
        obtain ⟨j, hj, _⟩ := trIx_all hii ho
        rw [if_pos rfl, if_neg (by omega)]
        obtain ⟨hb, hne⟩ := narOk_iff.1 hn
        have hin := nI_in hne
        obtain ⟨N, hN⟩ : ∃ N, (tabsN x l).length = N + 1 := ⟨(tabsN x l).length - 1, by omega⟩
        have hset : ∀ i, (∃ j, j < N + 1 ∧ trIx x l j = i) ↔ ((nI' x l).lo ≤ i ∧ i ≤ (nI' x l).hi) := fun i => by
          constructor
          · rintro ⟨j, hj, rfl⟩
            obtain ⟨h1, h2⟩ := trIx_in (x := x) (l := l) (j := j) (by omega)
            exact ((okT_nar h l h2).1 h1).2
          · intro hh
            obtain ⟨j, h1, h2⟩ := trIx_all (x := x) (l := l) (i := i) (by omega) ((okT_nar h l (by omega)).2 ⟨hb, hh⟩)
            exact ⟨j, by omega, h2⟩
        rw [hN]
        have e1 : nI' x l = trIdx x l (N + 1) := by
          have a : Hull false (nI' x l) (fun i => (nI' x l).lo ≤ i ∧ i ≤ (nI' x l).hi) := .inr ⟨rfl, ⟨Int.le_refl _, hne⟩, ⟨hne, Int.le_refl _⟩, fun z hz => hz⟩
          have b := hull_same (trIdx_hull x l (N + 1)) (fun i => (hset i).symm)
          exact (hull_one a b).2 rfl
        have e2 : nTab x l x.tab.length = trLeft x l (N + 1) := by
          refine ext_atS (by rw [nTab_len, trLeft_len]) fun k hk => ?_
          rw [nTab_len] at hk
          rw [atS_nTab hk]
          have b := trLeft_hull hk N (show N < (tabsN x l).length by omega)
          have hK : ∀ i, (nI' x l).lo ≤ i ∧ i ≤ (nI' x l).hi → tabK x l i k = ⟨max (atS x.tab k).lo ((bS x l k).lo - i), min (atS x.tab k).hi ((bS x l k).hi - i)⟩ := fun i hh => tabK_both h l (by omega) hk
          have hne' : ∀ i, (nI' x l).lo ≤ i ∧ i ≤ (nI' x l).hi → (tabK x l i k).lo ≤ (tabK x l i k).hi := fun i hh => okT_ne ((okT_nar h l (by omega)).2 ⟨hb, hh⟩) hk
          have a : Hull false (nEl x l k) (fun v => ∃ j, j < N + 1 ∧ (tabK x l (trIx x l j) k).lo ≤ v ∧ v ≤ (tabK x l (trIx x l j) k).hi) := by
            refine .inr ⟨rfl, ?_, ?_, ?_⟩
            · obtain ⟨j, hj, e⟩ := (hset (nI' x l).hi).2 ⟨hne, Int.le_refl _⟩
              refine ⟨j, hj, ?_⟩
              rw [e]
              have := hne' _ ⟨hne, Int.le_refl _⟩
              rw [hK _ ⟨hne, Int.le_refl _⟩] at this ⊢
              unfold nEl
              simp only at this ⊢
              exact ⟨Int.le_refl _, this⟩
            · obtain ⟨j, hj, e⟩ := (hset (nI' x l).lo).2 ⟨Int.le_refl _, hne⟩
              refine ⟨j, hj, ?_⟩
              rw [e]
              have := hne' _ ⟨Int.le_refl _, hne⟩
              rw [hK _ ⟨Int.le_refl _, hne⟩] at this ⊢
              unfold nEl
              simp only at this ⊢
              exact ⟨this, Int.le_refl _⟩
            · rintro z ⟨j, hj, hz⟩
              have hh := (hset _).1 ⟨j, hj, rfl⟩
              rw [hK _ hh] at hz
              unfold nEl
              simp only at hz ⊢
              omega
          exact (hull_one a b).2 rfl
        rw [e1, e2]
  · rw [if_neg hE, if_neg hE]
end Go.Os

/- Part Rg. -/
namespace Go.Proofs.Ytjmkccckohcfkaa
open Go.RowKit Go.Pm Go.Oc Go.Oh Go.Os
set_option maxRecDepth 100000
set_option linter.unusedVariables false
set_option maxHeartbeats 8000000

theorem rNarrowedI_c (x : Sx) {sT sS : TV} (hT : IsRow Span.cs sT x.tab) (hS : IsRow Span.cs sS x.shade) (hv : sxOk x = true) {l : List Tr} {s : TV} (hs : IsRow Tr.cs s l) (hl : l.all (trB x) = true) (h8 : l.length ≤ 8) (h1 : 1 ≤ l.length) {n : Int} (h0 : 0 ≤ n) :
    PCalls Try.prog 80 [x.t sT sS, s, .int .i64 n] (.tup [narT x sT sS (setT l n.toNat), .bool (narOk x (setT l n.toNat))]) := by
  have := rNarrowed_c x hT hS hv hs hl h8 h1 n.toNat
  rwa [Int.toNat_of_nonneg h0] at this
noncomputable def rxNarrowed : List TV → Option TV
  | [.agg [.int .i64 a0, sT, .int .i64 a1, .int .i64 a2, .int .i64 a3, sS], s, .int .i64 n] => match rowL unS sT, rowL unS sS, rowL unTr s with
    | some tab, some shade, some l => if sxOk (⟨a0, tab, ⟨a1, a2⟩, a3, shade⟩ : Sx) = true ∧ l.all (trB (⟨a0, tab, ⟨a1, a2⟩, a3, shade⟩ : Sx)) = true ∧ (1 ≤ l.length ∧ l.length ≤ 8) ∧ 0 ≤ n then some (.tup [narT (⟨a0, tab, ⟨a1, a2⟩, a3, shade⟩ : Sx) sT sS (setT l n.toNat), .bool (narOk (⟨a0, tab, ⟨a1, a2⟩, a3, shade⟩ : Sx) (setT l n.toNat))]) else none
    | _, _, _ => none
  | _ => none
theorem rxNarrowed_ok : ∀ xs r, rxNarrowed xs = some r → PCalls Try.prog 80 xs r := by
  intro xs r h
  unfold rxNarrowed at h
  split at h
  · split at h
    · rename_i tab shade l hT hS hl
      have hT := rowL_some (un := unS) unS_nil (@unS_some) hT
      have hS := rowL_some (un := unS) unS_nil (@unS_some) hS
      have hl := rowL_some (un := unTr) unTr_nil (@unTr_some) hl
      split at h
      · rename_i hc; cases h; exact rNarrowedI_c ⟨_, tab, ⟨_, _⟩, _, shade⟩ hT hS hc.1 hl hc.2.1 hc.2.2.1.2 hc.2.2.1.1 hc.2.2.2
      · cases h
    · cases h
  · cases h
attribute [go_sem] rxNarrowed
noncomputable def spRh : Pm.Spec := (((spH.one 18 rxCheck).one 79 rxAreTrials).one 80 rxNarrowed)
@[go_sem] theorem spRh_p (f : FuncId) (xs : List TV) : spRh.p f xs = Pm.Spec.p ((((spH.one 18 rxCheck).one 79 rxAreTrials).one 80 rxNarrowed)) f xs := rfl
@[go_sem] theorem spRh_h (f : FuncId) (ps : List PV) (hl : List PO) : spRh.h f ps hl = Pm.Spec.h ((((spH.one 18 rxCheck).one 79 rxAreTrials).one 80 rxNarrowed)) f ps hl := rfl
@[go_sem] theorem spRh_fz (f : FuncId) : spRh.fz f = Pm.Spec.fz ((((spH.one 18 rxCheck).one 79 rxAreTrials).one 80 rxNarrowed)) f := rfl
@[go_sem] theorem spRh_fr (f : FuncId) : spRh.fr f = Pm.Spec.fr ((((spH.one 18 rxCheck).one 79 rxAreTrials).one 80 rxNarrowed)) f := rfl
@[go_sem] theorem spRh_mu (t : TypeId) : spRh.mu t = Pm.Spec.mu ((((spH.one 18 rxCheck).one 79 rxAreTrials).one 80 rxNarrowed)) t := rfl
@[go_sem] theorem spRh_nf (t : TypeId) : spRh.nf t = Pm.Spec.nf ((((spH.one 18 rxCheck).one 79 rxAreTrials).one 80 rxNarrowed)) t := rfl
theorem spRh_ok : SpecOk Try.prog spRh := Spec.one_ok rxNarrowed_ok (Spec.one_ok rxAreTrials_ok (Spec.one_ok rxCheck_ok spH_ok))
def rowG' (l : List Span) : TV := if l.length = 0 then .nilSl else .sl (l.flatMap Span.cs) l.length false
theorem pow8 {n N : Nat} (h1 : 1 ≤ n) (h8 : n ≤ 8) (hN : 2 ^ n = N) : (2 ≤ N ∧ N ≤ 256) ∧ IntKind.i64.wrap (1 * 2 ^ min n 64) = (N : Int) := by
  rcases (show n = 1 ∨ n = 2 ∨ n = 3 ∨ n = 4 ∨ n = 5 ∨ n = 6 ∨ n = 7 ∨ n = 8 by omega) with rfl | rfl | rfl | rfl | rfl | rfl | rfl | rfl <;> subst hN <;> exact ⟨by decide, rfl⟩
theorem rTrial_c (x : Sx) {sT sS : TV} (hT : IsRow Span.cs sT x.tab) (hS : IsRow Span.cs sS x.shade) (lT : x.tab.length ≤ 9000000000000) (lS : x.shade.length ≤ 9000000000000) {l : List Tr} {s : TV} (hs : IsRow Tr.cs s l) (ll : l.length ≤ 9000000000000) :
    PCalls Try.prog 25 [x.t sT sS, s] (.tup [rowG' (trialR x l).1, (trialR x l).2.1.t, .int .i64 (trialR x l).2.2]) := by
  have rT := rowS_is hT
  have rS := rowS_is hS
  have rs := rowTr_is hs
  unfold rowL at rT rS rs
  simp only [unS_nil] at rT rS
  simp only [unTr_nil] at rs
  have e0 : Sx.mk x.step x.tab ⟨x.idx.lo, x.idx.hi⟩ x.wrong x.shade = x := rfl
  refine pcalls_by Try.mixes spRh_ok (fn := Try.f25) Try.func25 rfl (by kernel_rfl) (by show 2 ≤ _; decide) ?_
  unfold trialR
  cases hv : sxOk x with
  | false =>
    have hE : openedE x l = 50 := by unfold openedE; rw [hv]; rfl
    have b : ((50 : Int) != 0) = true := rfl
    simp (decide := true) (maxSteps := 4000000) only [go_sem, Nat.reduceAdd, Nat.reduceSub, Nat.reduceMul, Nat.reduceDiv, Nat.reduceMod, Nat.reduceLT, Nat.reduceLeDiff, Nat.reduceEqDiff, Nat.reduceBEq, Nat.reduceBNe, Nat.reduceGT, Int.reduceAdd, Int.reduceSub, Int.reduceMul, Int.reduceNeg, Int.reduceLT, Int.reduceLE, Int.reduceEq, Int.reduceNe, Int.reduceBEq, Int.reduceBNe, Int.reduceToNat, Int.reduceGT, Int.reduceGE, ↓reduceIte, decide_true, decide_false, eq_self, Nat.mul_one, Nat.zero_mul, Nat.one_mul, Int.le_refl, Nat.le_refl, Int.cast_ofNat_Int, Try.f25, Sx.t, Sx.cs, rT, rS, rs, lT, lS, ll, e0, hv, hE, b, rowG', List.length_nil, Span.t, Span.cs]
  | true =>
    have b0 : ((0 : Int) != 0) = false := rfl
    cases htr : trsOk x l with
    | false =>
      have hE : openedE x l = 53 := by unfold openedE; rw [hv, htr]; rfl
      simp (decide := true) (maxSteps := 4000000) only [go_sem, Nat.reduceAdd, Nat.reduceSub, Nat.reduceMul, Nat.reduceDiv, Nat.reduceMod, Nat.reduceLT, Nat.reduceLeDiff, Nat.reduceEqDiff, Nat.reduceBEq, Nat.reduceBNe, Nat.reduceGT, Int.reduceAdd, Int.reduceSub, Int.reduceMul, Int.reduceNeg, Int.reduceLT, Int.reduceLE, Int.reduceEq, Int.reduceNe, Int.reduceBEq, Int.reduceBNe, Int.reduceToNat, Int.reduceGT, Int.reduceGE, ↓reduceIte, decide_true, decide_false, eq_self, Nat.mul_one, Nat.zero_mul, Nat.one_mul, Int.le_refl, Nat.le_refl, Int.cast_ofNat_Int, Try.f25, Sx.t, Sx.cs, rT, rS, rs, lT, lS, ll, e0, hv, htr, hE, b0, rowG', List.length_nil, Span.t, Span.cs]
    | true =>
      have hE : openedE x l = 0 := by unfold openedE; rw [hv, htr]; rfl
      have h := sxOk_iff.1 hv
      have htr' := htr
      unfold trsOk at htr'
      rw [Bool.and_eq_true, inB_iff] at htr'
      have hl := htr'.2
      have h18 : 1 ≤ l.length ∧ l.length ≤ 8 := by omega
      obtain ⟨g, rfl⟩ := hs.ne (by omega)
      have rs := unTr_eq l
      obtain ⟨N, hN⟩ : ∃ N, 2 ^ l.length = N := ⟨_, rfl⟩
      obtain ⟨hNb, hsh⟩ := pow8 h18.1 h18.2 hN
      have w1 : IntKind.i64.wrap ((N : Int) - 1) = ((N - 1 : Nat) : Int) := by rw [wrap_in (by omega) (by omega)]; omega
      have hl0 : ¬ (l.length : Int) < 0 := by omega
      have hn0 : (0 : Int) ≤ ((N - 1 : Nat) : Int) := by omega
      have hn00 : ¬ x.tab.length = 0 := by have := h.len; omega
      rw [hN]
      obtain ⟨L, hL⟩ : ∃ L, setT l (N - 1) = L := ⟨_, rfl⟩
      rw [hL]
      cases hok : narOk x L with
      | false => simp (decide := true) (maxSteps := 4000000) only [go_sem, Nat.reduceAdd, Nat.reduceSub, Nat.reduceMul, Nat.reduceDiv, Nat.reduceMod, Nat.reduceLT, Nat.reduceLeDiff, Nat.reduceEqDiff, Nat.reduceBEq, Nat.reduceBNe, Nat.reduceGT, Int.reduceAdd, Int.reduceSub, Int.reduceMul, Int.reduceNeg, Int.reduceLT, Int.reduceLE, Int.reduceEq, Int.reduceNe, Int.reduceBEq, Int.reduceBNe, Int.reduceToNat, Int.reduceGT, Int.reduceGE, ↓reduceIte, decide_true, decide_false, eq_self, Nat.mul_one, Nat.zero_mul, Nat.one_mul, Int.le_refl, Nat.le_refl, Int.cast_ofNat_Int, Try.f25, Sx.t, Sx.cs, rT, rS, rs, lT, lS, ll, e0, hv, htr, hE, b0, hl, h18, hsh, w1, hl0, IntKind.bits, hn0, Int.toNat_natCast, hL, hok, narT, rowG', List.length_nil, Span.t, Span.cs]
      | true => simp (decide := true) (maxSteps := 4000000) only [go_sem, Nat.reduceAdd, Nat.reduceSub, Nat.reduceMul, Nat.reduceDiv, Nat.reduceMod, Nat.reduceLT, Nat.reduceLeDiff, Nat.reduceEqDiff, Nat.reduceBEq, Nat.reduceBNe, Nat.reduceGT, Int.reduceAdd, Int.reduceSub, Int.reduceMul, Int.reduceNeg, Int.reduceLT, Int.reduceLE, Int.reduceEq, Int.reduceNe, Int.reduceBEq, Int.reduceBNe, Int.reduceToNat, Int.reduceGT, Int.reduceGE, ↓reduceIte, decide_true, decide_false, eq_self, Nat.mul_one, Nat.zero_mul, Nat.one_mul, Int.le_refl, Nat.le_refl, Int.cast_ofNat_Int, Try.f25, Sx.t, Sx.cs, rT, rS, rs, lT, lS, ll, e0, hv, htr, hE, b0, hl, h18, hsh, w1, hl0, IntKind.bits, hn0, Int.toNat_natCast, hL, hok, narT, rowG', nTab_len, hn00, Span.t, Span.cs]
theorem rFalse_c (x : Sx) {sT sS : TV} (hT : IsRow Span.cs sT x.tab) (hS : IsRow Span.cs sS x.shade) (lT : x.tab.length ≤ 9000000000000) (lS : x.shade.length ≤ 9000000000000) {l : List Tr} {s : TV} (hs : IsRow Tr.cs s l) (ll : l.length ≤ 9000000000000) :
    PCalls Try.prog 28 [x.t sT sS, s] (.tup [rowI (nI (falseR x l).1), .int .i64 (falseR x l).2]) := by
  have rT := rowS_is hT
  have rS := rowS_is hS
  have rs := rowTr_is hs
  unfold rowL at rT rS rs
  simp only [unS_nil] at rT rS
  simp only [unTr_nil] at rs
  have e0 : Sx.mk x.step x.tab ⟨x.idx.lo, x.idx.hi⟩ x.wrong x.shade = x := rfl
  refine pcalls_by Try.mixes spRh_ok (fn := Try.f28) Try.func28 rfl (by kernel_rfl) (by show 2 ≤ _; decide) ?_
  unfold falseR
  cases hv : sxOk x with
  | false =>
    have hE : openedE x l = 50 := by unfold openedE; rw [hv]; rfl
    have b : ((50 : Int) != 0) = true := rfl
    simp (decide := true) (maxSteps := 4000000) only [go_sem, Nat.reduceAdd, Nat.reduceSub, Nat.reduceMul, Nat.reduceDiv, Nat.reduceMod, Nat.reduceLT, Nat.reduceLeDiff, Nat.reduceEqDiff, Nat.reduceBEq, Nat.reduceBNe, Nat.reduceGT, Int.reduceAdd, Int.reduceSub, Int.reduceMul, Int.reduceNeg, Int.reduceLT, Int.reduceLE, Int.reduceEq, Int.reduceNe, Int.reduceBEq, Int.reduceBNe, Int.reduceToNat, Int.reduceGT, Int.reduceGE, ↓reduceIte, decide_true, decide_false, eq_self, Nat.mul_one, Nat.zero_mul, Nat.one_mul, Int.le_refl, Nat.le_refl, Int.cast_ofNat_Int, Try.f28, Sx.t, Sx.cs, rT, rS, rs, lT, lS, ll, e0, hv, hE, b, rowI, nI, List.map_nil, List.length_nil]
  | true =>
    have b0 : ((0 : Int) != 0) = false := rfl
    cases htr : trsOk x l with
    | false =>
      have hE : openedE x l = 53 := by unfold openedE; rw [hv, htr]; rfl
      simp (decide := true) (maxSteps := 4000000) only [go_sem, Nat.reduceAdd, Nat.reduceSub, Nat.reduceMul, Nat.reduceDiv, Nat.reduceMod, Nat.reduceLT, Nat.reduceLeDiff, Nat.reduceEqDiff, Nat.reduceBEq, Nat.reduceBNe, Nat.reduceGT, Int.reduceAdd, Int.reduceSub, Int.reduceMul, Int.reduceNeg, Int.reduceLT, Int.reduceLE, Int.reduceEq, Int.reduceNe, Int.reduceBEq, Int.reduceBNe, Int.reduceToNat, Int.reduceGT, Int.reduceGE, ↓reduceIte, decide_true, decide_false, eq_self, Nat.mul_one, Nat.zero_mul, Nat.one_mul, Int.le_refl, Nat.le_refl, Int.cast_ofNat_Int, Try.f28, Sx.t, Sx.cs, rT, rS, rs, lT, lS, ll, e0, hv, htr, hE, b0, rowI, nI, List.map_nil, List.length_nil]
    | true =>
      have hE : openedE x l = 0 := by unfold openedE; rw [hv, htr]; rfl
      have h := sxOk_iff.1 hv
      have htr' := htr
      unfold trsOk at htr'
      rw [Bool.and_eq_true, inB_iff] at htr'
      have hl := htr'.2
      have h18 : 1 ≤ l.length ∧ l.length ≤ 8 := by omega
      obtain ⟨g, rfl⟩ := hs.ne (by omega)
      obtain ⟨fT, rfl⟩ := good_T h hT
      have rs := unTr_eq l
      have rT := unS_eq x.tab
      obtain ⟨N, hN⟩ : ∃ N, 2 ^ l.length = N := ⟨_, rfl⟩
      obtain ⟨hNb, hsh⟩ := pow8 h18.1 h18.2 hN
      have hlz : ¬ (l.length : Int) < 0 := by omega
      have h62 : l.length ≤ 62 := by omega
      have h62i : (l.length : Int) ≤ 62 := by omega
      have h0l : (0 : Int) ≤ l.length := by omega
      rw [hN]
      simp (decide := true) (maxSteps := 4000000) only [go_sem, Nat.reduceAdd, Nat.reduceSub, Nat.reduceMul, Nat.reduceDiv, Nat.reduceMod, Nat.reduceLT, Nat.reduceLeDiff, Nat.reduceEqDiff, Nat.reduceBEq, Nat.reduceBNe, Nat.reduceGT, Int.reduceAdd, Int.reduceSub, Int.reduceMul, Int.reduceNeg, Int.reduceLT, Int.reduceLE, Int.reduceEq, Int.reduceNe, Int.reduceBEq, Int.reduceBNe, Int.reduceToNat, Int.reduceGT, Int.reduceGE, ↓reduceIte, decide_true, decide_false, eq_self, Nat.mul_one, Nat.zero_mul, Nat.one_mul, Int.le_refl, Nat.le_refl, Int.cast_ofNat_Int, Try.f28, Sx.t, Sx.cs, rT, rS, rs, lT, lS, ll, e0, hv, htr, hE, b0]
      refine pwpC_loopU (A := { k : Nat // k ≤ N - 1 }) [1, 2] (fun k => [(8, .t (.int .i64 ((k.1 + 1 : Nat) : Int))), (7, .t (rowI (nI (refTo (badR x l) l.length k.1))))]) (fun k => []) (fun k => N - 1 - k.1) ⟨0, by omega⟩ (by decide) (fun _ => by rfl) ?_ fun Q1 hQ1 ⟨k, hkN⟩ I1 hI1 => ?_
      · simp (decide := true) (maxSteps := 4000000) only [go_sem, Nat.reduceAdd, Nat.reduceSub, Nat.reduceMul, Nat.reduceDiv, Nat.reduceMod, Nat.reduceLT, Nat.reduceLeDiff, Nat.reduceEqDiff, Nat.reduceBEq, Nat.reduceBNe, Nat.reduceGT, Int.reduceAdd, Int.reduceSub, Int.reduceMul, Int.reduceNeg, Int.reduceLT, Int.reduceLE, Int.reduceEq, Int.reduceNe, Int.reduceBEq, Int.reduceBNe, Int.reduceToNat, Int.reduceGT, Int.reduceGE, ↓reduceIte, decide_true, decide_false, eq_self, Nat.mul_one, Nat.zero_mul, Nat.one_mul, Int.le_refl, Nat.le_refl, Int.cast_ofNat_Int, refTo, List.range', List.foldl_nil, rowI, nI, List.map_nil, List.length_nil]
      · by_cases hlt : ((k + 1 : Nat) : Int) < N
        · have hkN' : k + 1 < 2 ^ l.length := by omega
          have hne := setN_ne (s := k + 1) (by omega) hkN'
          have hrs := refTo_succ (badR x l) l.length k
          unfold refStep at hrs
          simp only at hrs
          rw [show (List.range l.length).filter (k + 1).testBit = setN l.length (k + 1) from rfl] at hrs
          have hSl := setN_len l.length (k + 1)
          have hS0 : ¬ (setN l.length (k + 1)).length = 0 := fun h => hne (List.length_eq_zero_iff.1 h)
          have hsT : setT l (k + 1) = selA l (setN l.length (k + 1)) := rfl
          obtain ⟨S, hSe⟩ : ∃ S, setN l.length (k + 1) = S := ⟨_, rfl⟩
          rw [hSe] at hne hrs hSl hS0 hsT
          have hbr : badR x l S = !narOk x (selA l S) := rfl
          have hS62 : S.length ≤ 62 := by omega
          have c1 : (0 : Int) ≤ ((k + 1 : Nat) : Int) := by omega
          have hc1 : IntKind.i64.wrap (((k + 1 : Nat) : Int) + 1) = ((k + 1 + 1 : Nat) : Int) := by rw [wrap_in (by omega) (by omega)]; omega
          have hown := rowI_ne (l := nI S) (by rw [nI_len]; omega)
          rw [nI_len] at hown
          rw [hbr] at hrs
          obtain ⟨L, hL⟩ : ∃ L, selA l S = L := ⟨_, rfl⟩
          rw [hL] at hrs hsT
          cases hi : narOk x L with
          | true =>
            rw [hi] at hrs
            simp only [Bool.not_true, Bool.false_eq_true, if_false] at hrs
            simp (decide := true) (maxSteps := 4000000) only [go_sem, Nat.reduceAdd, Nat.reduceSub, Nat.reduceMul, Nat.reduceDiv, Nat.reduceMod, Nat.reduceLT, Nat.reduceLeDiff, Nat.reduceEqDiff, Nat.reduceBEq, Nat.reduceBNe, Nat.reduceGT, Int.reduceAdd, Int.reduceSub, Int.reduceMul, Int.reduceNeg, Int.reduceLT, Int.reduceLE, Int.reduceEq, Int.reduceNe, Int.reduceBEq, Int.reduceBNe, Int.reduceToNat, Int.reduceGT, Int.reduceGE, ↓reduceIte, decide_true, decide_false, eq_self, Nat.mul_one, Nat.zero_mul, Nat.one_mul, Int.le_refl, Nat.le_refl, Int.cast_ofNat_Int, hlt, hlz, hsh, IntKind.bits, Sx.cs, rT, rS, rs, e0, hv, hl, h18, c1, Int.toNat_natCast, hsT, hi, narT, Sx.t]
            refine hI1 _ ⟨k + 1, by omega⟩ (by simp only; omega) ?_
            simp (decide := true) (maxSteps := 4000000) only [go_sem, Nat.reduceAdd, Nat.reduceSub, Nat.reduceMul, Nat.reduceDiv, Nat.reduceMod, Nat.reduceLT, Nat.reduceLeDiff, Nat.reduceEqDiff, Nat.reduceBEq, Nat.reduceBNe, Nat.reduceGT, Int.reduceAdd, Int.reduceSub, Int.reduceMul, Int.reduceNeg, Int.reduceLT, Int.reduceLE, Int.reduceEq, Int.reduceNe, Int.reduceBEq, Int.reduceBNe, Int.reduceToNat, Int.reduceGT, Int.reduceGE, ↓reduceIte, decide_true, decide_false, eq_self, Nat.mul_one, Nat.zero_mul, Nat.one_mul, Int.le_refl, Nat.le_refl, Int.cast_ofNat_Int, hc1, hrs, Sx.cs]
          | false =>
            rw [hi] at hrs
            simp only [Bool.not_false, if_true] at hrs
            by_cases hB : refTo (badR x l) l.length k = []
            · have hBr : rowI (nI (refTo (badR x l) l.length k)) = .nilSl := by rw [hB]; rfl
              rw [if_pos (.inl (by rw [hB]; rfl))] at hrs
              have hS0' : ((S.length : Int) == 0) = false := beq_int_f (by omega)
              simp (decide := true) (maxSteps := 4000000) only [go_sem, Nat.reduceAdd, Nat.reduceSub, Nat.reduceMul, Nat.reduceDiv, Nat.reduceMod, Nat.reduceLT, Nat.reduceLeDiff, Nat.reduceEqDiff, Nat.reduceBEq, Nat.reduceBNe, Nat.reduceGT, Int.reduceAdd, Int.reduceSub, Int.reduceMul, Int.reduceNeg, Int.reduceLT, Int.reduceLE, Int.reduceEq, Int.reduceNe, Int.reduceBEq, Int.reduceBNe, Int.reduceToNat, Int.reduceGT, Int.reduceGE, ↓reduceIte, decide_true, decide_false, eq_self, Nat.mul_one, Nat.zero_mul, Nat.one_mul, Int.le_refl, Nat.le_refl, Int.cast_ofNat_Int, hlt, hlz, hsh, IntKind.bits, Sx.cs, rT, rS, rs, e0, hv, hl, h18, c1, Int.toNat_natCast, hsT, hi, narT, Sx.t, hSe, h62, h62i, h0l, hS0, hS0', hown, hBr]
              refine hI1 _ ⟨k + 1, by omega⟩ (by simp only; omega) ?_
              simp (decide := true) (maxSteps := 4000000) only [go_sem, Nat.reduceAdd, Nat.reduceSub, Nat.reduceMul, Nat.reduceDiv, Nat.reduceMod, Nat.reduceLT, Nat.reduceLeDiff, Nat.reduceEqDiff, Nat.reduceBEq, Nat.reduceBNe, Nat.reduceGT, Int.reduceAdd, Int.reduceSub, Int.reduceMul, Int.reduceNeg, Int.reduceLT, Int.reduceLE, Int.reduceEq, Int.reduceNe, Int.reduceBEq, Int.reduceBNe, Int.reduceToNat, Int.reduceGT, Int.reduceGE, ↓reduceIte, decide_true, decide_false, eq_self, Nat.mul_one, Nat.zero_mul, Nat.one_mul, Int.le_refl, Nat.le_refl, Int.cast_ofNat_Int, hc1, hrs, hown, Sx.cs]
            · have hB0 : ¬ (refTo (badR x l) l.length k).length = 0 := fun h => hB (List.length_eq_zero_iff.1 h)
              have hBr := rowI_ne (l := nI (refTo (badR x l) l.length k)) (by rw [nI_len]; exact hB0)
              have hBl : (refTo (badR x l) l.length k).length ≤ l.length := by
                rcases refTo_law (badR x l) l.length k (by omega) with h | h
                · exact absurd h.1 hB
                · exact rowN_len h.2.1
              rw [nI_len] at hBr
              generalize refTo (badR x l) l.length k = B at hrs hB hB0 hBr hBl ⊢
              have hB0' : ((B.length : Int) == 0) = false := beq_int_f (by omega)
              have hB62 : B.length ≤ 62 := by omega
              by_cases h1 : (S.length : Int) < B.length
              · rw [if_pos (.inr (.inl (by omega)))] at hrs
                simp (decide := true) (maxSteps := 4000000) only [go_sem, Nat.reduceAdd, Nat.reduceSub, Nat.reduceMul, Nat.reduceDiv, Nat.reduceMod, Nat.reduceLT, Nat.reduceLeDiff, Nat.reduceEqDiff, Nat.reduceBEq, Nat.reduceBNe, Nat.reduceGT, Int.reduceAdd, Int.reduceSub, Int.reduceMul, Int.reduceNeg, Int.reduceLT, Int.reduceLE, Int.reduceEq, Int.reduceNe, Int.reduceBEq, Int.reduceBNe, Int.reduceToNat, Int.reduceGT, Int.reduceGE, ↓reduceIte, decide_true, decide_false, eq_self, Nat.mul_one, Nat.zero_mul, Nat.one_mul, Int.le_refl, Nat.le_refl, Int.cast_ofNat_Int, hlt, hlz, hsh, IntKind.bits, Sx.cs, rT, rS, rs, e0, hv, hl, h18, c1, Int.toNat_natCast, hsT, hi, narT, Sx.t, hSe, h62, h62i, h0l, hS0, hown, hBr, hB0', hB62, hS62, nI_len, h1]
                refine hI1 _ ⟨k + 1, by omega⟩ (by simp only; omega) ?_
                simp (decide := true) (maxSteps := 4000000) only [go_sem, Nat.reduceAdd, Nat.reduceSub, Nat.reduceMul, Nat.reduceDiv, Nat.reduceMod, Nat.reduceLT, Nat.reduceLeDiff, Nat.reduceEqDiff, Nat.reduceBEq, Nat.reduceBNe, Nat.reduceGT, Int.reduceAdd, Int.reduceSub, Int.reduceMul, Int.reduceNeg, Int.reduceLT, Int.reduceLE, Int.reduceEq, Int.reduceNe, Int.reduceBEq, Int.reduceBNe, Int.reduceToNat, Int.reduceGT, Int.reduceGE, ↓reduceIte, decide_true, decide_false, eq_self, Nat.mul_one, Nat.zero_mul, Nat.one_mul, Int.le_refl, Nat.le_refl, Int.cast_ofNat_Int, hc1, hrs, hown, Sx.cs]
              · by_cases h2 : S.length = B.length
                · have h2' : ((S.length : Int) == (B.length : Int)) = true := beq_int_t (by omega)
                  cases h3 : before (nI S) (nI B) with
                  | true =>
                    rw [if_pos (.inr (.inr ⟨h2, h3⟩))] at hrs
                    simp (decide := true) (maxSteps := 4000000) only [go_sem, Nat.reduceAdd, Nat.reduceSub, Nat.reduceMul, Nat.reduceDiv, Nat.reduceMod, Nat.reduceLT, Nat.reduceLeDiff, Nat.reduceEqDiff, Nat.reduceBEq, Nat.reduceBNe, Nat.reduceGT, Int.reduceAdd, Int.reduceSub, Int.reduceMul, Int.reduceNeg, Int.reduceLT, Int.reduceLE, Int.reduceEq, Int.reduceNe, Int.reduceBEq, Int.reduceBNe, Int.reduceToNat, Int.reduceGT, Int.reduceGE, ↓reduceIte, decide_true, decide_false, eq_self, Nat.mul_one, Nat.zero_mul, Nat.one_mul, Int.le_refl, Nat.le_refl, Int.cast_ofNat_Int, hlt, hlz, hsh, IntKind.bits, Sx.cs, rT, rS, rs, e0, hv, hl, h18, c1, Int.toNat_natCast, hsT, hi, narT, Sx.t, hSe, h62, h62i, h0l, hS0, hown, hBr, hB0', hB62, hS62, nI_len, h1, h2', h3]
                    refine hI1 _ ⟨k + 1, by omega⟩ (by simp only; omega) ?_
                    simp (decide := true) (maxSteps := 4000000) only [go_sem, Nat.reduceAdd, Nat.reduceSub, Nat.reduceMul, Nat.reduceDiv, Nat.reduceMod, Nat.reduceLT, Nat.reduceLeDiff, Nat.reduceEqDiff, Nat.reduceBEq, Nat.reduceBNe, Nat.reduceGT, Int.reduceAdd, Int.reduceSub, Int.reduceMul, Int.reduceNeg, Int.reduceLT, Int.reduceLE, Int.reduceEq, Int.reduceNe, Int.reduceBEq, Int.reduceBNe, Int.reduceToNat, Int.reduceGT, Int.reduceGE, ↓reduceIte, decide_true, decide_false, eq_self, Nat.mul_one, Nat.zero_mul, Nat.one_mul, Int.le_refl, Nat.le_refl, Int.cast_ofNat_Int, hc1, hrs, hown, Sx.cs]
                  | false =>
                    rw [if_neg (by rintro (h | h | ⟨_, h⟩); exact hB0 h; omega; rw [h3] at h; cases h)] at hrs
                    simp (decide := true) (maxSteps := 4000000) only [go_sem, Nat.reduceAdd, Nat.reduceSub, Nat.reduceMul, Nat.reduceDiv, Nat.reduceMod, Nat.reduceLT, Nat.reduceLeDiff, Nat.reduceEqDiff, Nat.reduceBEq, Nat.reduceBNe, Nat.reduceGT, Int.reduceAdd, Int.reduceSub, Int.reduceMul, Int.reduceNeg, Int.reduceLT, Int.reduceLE, Int.reduceEq, Int.reduceNe, Int.reduceBEq, Int.reduceBNe, Int.reduceToNat, Int.reduceGT, Int.reduceGE, ↓reduceIte, decide_true, decide_false, eq_self, Nat.mul_one, Nat.zero_mul, Nat.one_mul, Int.le_refl, Nat.le_refl, Int.cast_ofNat_Int, hlt, hlz, hsh, IntKind.bits, Sx.cs, rT, rS, rs, e0, hv, hl, h18, c1, Int.toNat_natCast, hsT, hi, narT, Sx.t, hSe, h62, h62i, h0l, hS0, hown, hBr, hB0', hB62, hS62, nI_len, h1, h2', h3]
                    refine hI1 _ ⟨k + 1, by omega⟩ (by simp only; omega) ?_
                    simp (decide := true) (maxSteps := 4000000) only [go_sem, Nat.reduceAdd, Nat.reduceSub, Nat.reduceMul, Nat.reduceDiv, Nat.reduceMod, Nat.reduceLT, Nat.reduceLeDiff, Nat.reduceEqDiff, Nat.reduceBEq, Nat.reduceBNe, Nat.reduceGT, Int.reduceAdd, Int.reduceSub, Int.reduceMul, Int.reduceNeg, Int.reduceLT, Int.reduceLE, Int.reduceEq, Int.reduceNe, Int.reduceBEq, Int.reduceBNe, Int.reduceToNat, Int.reduceGT, Int.reduceGE, ↓reduceIte, decide_true, decide_false, eq_self, Nat.mul_one, Nat.zero_mul, Nat.one_mul, Int.le_refl, Nat.le_refl, Int.cast_ofNat_Int, hc1, hrs, hBr, Sx.cs]
                · have h2' : ((S.length : Int) == (B.length : Int)) = false := beq_int_f (by omega)
                  rw [if_neg (by rintro (h | h | ⟨h, _⟩); exact hB0 h; omega; exact h2 h)] at hrs
                  simp (decide := true) (maxSteps := 4000000) only [go_sem, Nat.reduceAdd, Nat.reduceSub, Nat.reduceMul, Nat.reduceDiv, Nat.reduceMod, Nat.reduceLT, Nat.reduceLeDiff, Nat.reduceEqDiff, Nat.reduceBEq, Nat.reduceBNe, Nat.reduceGT, Int.reduceAdd, Int.reduceSub, Int.reduceMul, Int.reduceNeg, Int.reduceLT, Int.reduceLE, Int.reduceEq, Int.reduceNe, Int.reduceBEq, Int.reduceBNe, Int.reduceToNat, Int.reduceGT, Int.reduceGE, ↓reduceIte, decide_true, decide_false, eq_self, Nat.mul_one, Nat.zero_mul, Nat.one_mul, Int.le_refl, Nat.le_refl, Int.cast_ofNat_Int, hlt, hlz, hsh, IntKind.bits, Sx.cs, rT, rS, rs, e0, hv, hl, h18, c1, Int.toNat_natCast, hsT, hi, narT, Sx.t, hSe, h62, h62i, h0l, hS0, hown, hBr, hB0', hB62, hS62, nI_len, h1, h2']
                  refine hI1 _ ⟨k + 1, by omega⟩ (by simp only; omega) ?_
                  simp (decide := true) (maxSteps := 4000000) only [go_sem, Nat.reduceAdd, Nat.reduceSub, Nat.reduceMul, Nat.reduceDiv, Nat.reduceMod, Nat.reduceLT, Nat.reduceLeDiff, Nat.reduceEqDiff, Nat.reduceBEq, Nat.reduceBNe, Nat.reduceGT, Int.reduceAdd, Int.reduceSub, Int.reduceMul, Int.reduceNeg, Int.reduceLT, Int.reduceLE, Int.reduceEq, Int.reduceNe, Int.reduceBEq, Int.reduceBNe, Int.reduceToNat, Int.reduceGT, Int.reduceGE, ↓reduceIte, decide_true, decide_false, eq_self, Nat.mul_one, Nat.zero_mul, Nat.one_mul, Int.le_refl, Nat.le_refl, Int.cast_ofNat_Int, hc1, hrs, hBr, Sx.cs]
        · have hke : k = N - 1 := by omega
          subst hke
          simp (decide := true) (maxSteps := 4000000) only [go_sem, Nat.reduceAdd, Nat.reduceSub, Nat.reduceMul, Nat.reduceDiv, Nat.reduceMod, Nat.reduceLT, Nat.reduceLeDiff, Nat.reduceEqDiff, Nat.reduceBEq, Nat.reduceBNe, Nat.reduceGT, Int.reduceAdd, Int.reduceSub, Int.reduceMul, Int.reduceNeg, Int.reduceLT, Int.reduceLE, Int.reduceEq, Int.reduceNe, Int.reduceBEq, Int.reduceBNe, Int.reduceToNat, Int.reduceGT, Int.reduceGE, ↓reduceIte, decide_true, decide_false, eq_self, Nat.mul_one, Nat.zero_mul, Nat.one_mul, Int.le_refl, Nat.le_refl, Int.cast_ofNat_Int, hlt, hlz, hsh, IntKind.bits]
          refine hQ1 _ _ ?_
          by_cases hB : refTo (badR x l) l.length (N - 1) = []
          · have hBr : rowI (nI (refTo (badR x l) l.length (N - 1))) = .nilSl := by rw [hB]; rfl
            have hr0 : rowI (nI []) = .nilSl := rfl
            simp (decide := true) (maxSteps := 4000000) only [go_sem, Nat.reduceAdd, Nat.reduceSub, Nat.reduceMul, Nat.reduceDiv, Nat.reduceMod, Nat.reduceLT, Nat.reduceLeDiff, Nat.reduceEqDiff, Nat.reduceBEq, Nat.reduceBNe, Nat.reduceGT, Int.reduceAdd, Int.reduceSub, Int.reduceMul, Int.reduceNeg, Int.reduceLT, Int.reduceLE, Int.reduceEq, Int.reduceNe, Int.reduceBEq, Int.reduceBNe, Int.reduceToNat, Int.reduceGT, Int.reduceGE, ↓reduceIte, decide_true, decide_false, eq_self, Nat.mul_one, Nat.zero_mul, Nat.one_mul, Int.le_refl, Nat.le_refl, Int.cast_ofNat_Int, hBr, if_pos hB, hr0]
          · have hB0 : ¬ (refTo (badR x l) l.length (N - 1)).length = 0 := fun h => hB (List.length_eq_zero_iff.1 h)
            have hBr := rowI_ne (l := nI (refTo (badR x l) l.length (N - 1))) (by rw [nI_len]; exact hB0)
            rw [nI_len] at hBr
            have hB0' : (((refTo (badR x l) l.length (N - 1)).length : Int) == 0) = false := beq_int_f (by omega)
            simp (decide := true) (maxSteps := 4000000) only [go_sem, Nat.reduceAdd, Nat.reduceSub, Nat.reduceMul, Nat.reduceDiv, Nat.reduceMod, Nat.reduceLT, Nat.reduceLeDiff, Nat.reduceEqDiff, Nat.reduceBEq, Nat.reduceBNe, Nat.reduceGT, Int.reduceAdd, Int.reduceSub, Int.reduceMul, Int.reduceNeg, Int.reduceLT, Int.reduceLE, Int.reduceEq, Int.reduceNe, Int.reduceBEq, Int.reduceBNe, Int.reduceToNat, Int.reduceGT, Int.reduceGE, ↓reduceIte, decide_true, decide_false, eq_self, Nat.mul_one, Nat.zero_mul, Nat.one_mul, Int.le_refl, Nat.le_refl, Int.cast_ofNat_Int, hBr, hB0', if_neg hB, nI_len]
end Go.Proofs.Ytjmkccckohcfkaa

/- Part Ob3. -/
namespace Go.Os
open Go Go.Pm Go.Oc Go.Oh
theorem trialP_len (x : Sx) (l : List Tr) : (trialP x l).1.length ≤ 12 := by
  unfold trialP
  split
  · rename_i hE
    have hv : sxOk x = true := by
      cases h : sxOk x with
      | true => rfl
      | false => unfold openedE at hE; rw [h] at hE; cases hE
    have hl := (sxOk_iff.1 hv).len
    split
    · exact Nat.zero_le _
    · simp only
      obtain ⟨N, hN⟩ : ∃ N, (tabsV x l).length = N + 1 := ⟨(tabsV x l).length - 1, by omega⟩
      rw [hN, trLeft_len]; omega
  · exact Nat.zero_le _
theorem rowF1_is (l : List Span) : IsRow Span.cs (rowF1 l) l := by
  unfold rowF1
  split
  · rename_i h; exact .inl ⟨rfl, List.length_eq_zero_iff.1 h⟩
  · exact .inr ⟨true, rfl⟩
theorem cho_len {n : Nat} {bad : List Nat → Bool} : ∀ (m : Nat) (S : List Nat) (fr : Nat) (o : List Nat) (M : Nat), S.length + m ≤ M → o.length ≤ M → (cho n bad m S fr o).2.length ≤ M
  | 0, S, fr, o, M, h, _ => by simpa [cho] using h
  | m + 1, S, fr, o, M, h, ho => by
    rw [cho_succ]
    have key : ∀ j, (choTo n bad m S fr o j).2.length ≤ M := by
      intro j
      induction j with
      | zero => exact ho
      | succ j ih =>
        cases hf : (choTo n bad m S fr o j).1 with
        | true => rw [choTo_stop hf 1]; exact ih
        | false => rw [choTo_succ hf]; exact cho_len m _ _ _ M (by rw [List.length_append, List.length_singleton]; omega) ih
    exact key _
theorem cho_falT_len {n : Nat} {bad : List Nat → Bool} (h8 : n ≤ 8) : ∀ k, k ≤ n → (falT n bad k).2.length ≤ 8
  | 0, _ => Nat.zero_le _
  | k + 1, hk => by
    have ih := cho_falT_len (bad := bad) h8 k (by omega)
    cases hf : (falT n bad k).1 with
    | true => rw [falT_stop hf 1]; exact ih
    | false => rw [falT_next hf]; exact cho_len _ _ _ _ 8 (by simp; omega) ih
theorem falseP_len (x : Sx) (l : List Tr) : (falseP x l).1.length ≤ 62 := by
  unfold falseP
  split
  · rename_i hE
    have h8 : l.length ≤ 8 := by
      unfold openedE at hE
      split at hE
      · split at hE
        · rename_i ht
          unfold trsOk at ht
          rw [Bool.and_eq_true, inB_iff] at ht
          omega
        · cases hE
      · cases hE
    split
    · exact Nat.zero_le _
    · rcases searches (badC x l) l.length with ⟨e1, e2, e3⟩ | ⟨e1, S, hS, e2, e3⟩
      · have := cho_falT_len (n := l.length) (bad := badC x l) h8 l.length (Nat.le_refl _)
        simp only; omega
      · rw [e2]
        have := rowN_len hS.row
        show S.length ≤ 62
        omega
  · exact Nat.zero_le _
end Go.Os
namespace Go.Proofs.Ytjmkccckohcfkaa
open Go.RowKit Go.Pm Go.Oc Go.Oh Go.Os
set_option maxRecDepth 100000
set_option linter.unusedVariables false
set_option maxHeartbeats 4000000

theorem rTrialP_c (x : Sx) {sT sS : TV} (hT : IsRow Span.cs sT x.tab) (hS : IsRow Span.cs sS x.shade) (lT : x.tab.length ≤ 9000000000000) (lS : x.shade.length ≤ 9000000000000) {l : List Tr} {s : TV} (hs : IsRow Tr.cs s l) (ll : l.length ≤ 9000000000000) :
    PCalls Try.prog 25 [x.t sT sS, s] (.tup [rowG' (trialP x l).1, (trialP x l).2.1.t, .int .i64 (trialP x l).2.2]) := by
  rw [← trial_same]; exact rTrial_c x hT hS lT lS hs ll
theorem rFalseP_c (x : Sx) {sT sS : TV} (hT : IsRow Span.cs sT x.tab) (hS : IsRow Span.cs sS x.shade) (lT : x.tab.length ≤ 9000000000000) (lS : x.shade.length ≤ 9000000000000) {l : List Tr} {s : TV} (hs : IsRow Tr.cs s l) (ll : l.length ≤ 9000000000000) :
    PCalls Try.prog 28 [x.t sT sS, s] (.tup [rowI (nI (falseP x l).1), .int .i64 (falseP x l).2]) := by
  rw [← false_same]; exact rFalse_c x hT hS lT lS hs ll
noncomputable def rxTrial : List TV → Option TV
  | [.agg [.int .i64 a0, sT, .int .i64 a1, .int .i64 a2, .int .i64 a3, sS], s] => match rowL unS sT, rowL unS sS, rowL unTr s with
    | some tab, some shade, some l => if tab.length ≤ 9000000000000 ∧ shade.length ≤ 9000000000000 ∧ l.length ≤ 9000000000000 then some (.tup [rowG' (trialP (⟨a0, tab, ⟨a1, a2⟩, a3, shade⟩ : Sx) l).1, (trialP (⟨a0, tab, ⟨a1, a2⟩, a3, shade⟩ : Sx) l).2.1.t, .int .i64 (trialP (⟨a0, tab, ⟨a1, a2⟩, a3, shade⟩ : Sx) l).2.2]) else none
    | _, _, _ => none
  | _ => none
theorem rxTrial_ok : ∀ xs r, rxTrial xs = some r → PCalls Try.prog 25 xs r := by
  intro xs r h
  unfold rxTrial at h
  split at h
  · split at h
    · rename_i tab shade l hT hS hl
      have hT := rowL_some (un := unS) unS_nil (@unS_some) hT
      have hS := rowL_some (un := unS) unS_nil (@unS_some) hS
      have hl := rowL_some (un := unTr) unTr_nil (@unTr_some) hl
      split at h
      · rename_i hc; cases h; exact rTrialP_c ⟨_, tab, ⟨_, _⟩, _, shade⟩ hT hS hc.1 hc.2.1 hl hc.2.2
      · cases h
    · cases h
  · cases h
attribute [go_sem] rxTrial
noncomputable def rxFalse : List TV → Option TV
  | [.agg [.int .i64 a0, sT, .int .i64 a1, .int .i64 a2, .int .i64 a3, sS], s] => match rowL unS sT, rowL unS sS, rowL unTr s with
    | some tab, some shade, some l => if tab.length ≤ 9000000000000 ∧ shade.length ≤ 9000000000000 ∧ l.length ≤ 9000000000000 then some (.tup [rowI (nI (falseP (⟨a0, tab, ⟨a1, a2⟩, a3, shade⟩ : Sx) l).1), .int .i64 (falseP (⟨a0, tab, ⟨a1, a2⟩, a3, shade⟩ : Sx) l).2]) else none
    | _, _, _ => none
  | _ => none
theorem rxFalse_ok : ∀ xs r, rxFalse xs = some r → PCalls Try.prog 28 xs r := by
  intro xs r h
  unfold rxFalse at h
  split at h
  · split at h
    · rename_i tab shade l hT hS hl
      have hT := rowL_some (un := unS) unS_nil (@unS_some) hT
      have hS := rowL_some (un := unS) unS_nil (@unS_some) hS
      have hl := rowL_some (un := unTr) unTr_nil (@unTr_some) hl
      split at h
      · rename_i hc; cases h; exact rFalseP_c ⟨_, tab, ⟨_, _⟩, _, shade⟩ hT hS hc.1 hc.2.1 hl hc.2.2
      · cases h
    · cases h
  · cases h
attribute [go_sem] rxFalse
noncomputable def spOb3 : Pm.Spec := (spO5.one 25 rxTrial).one 28 rxFalse
@[go_sem] theorem spOb3_p (f : FuncId) (xs : List TV) : spOb3.p f xs = Pm.Spec.p ((spO5.one 25 rxTrial).one 28 rxFalse) f xs := rfl
@[go_sem] theorem spOb3_h (f : FuncId) (ps : List PV) (hl : List PO) : spOb3.h f ps hl = Pm.Spec.h ((spO5.one 25 rxTrial).one 28 rxFalse) f ps hl := rfl
@[go_sem] theorem spOb3_fz (f : FuncId) : spOb3.fz f = Pm.Spec.fz ((spO5.one 25 rxTrial).one 28 rxFalse) f := rfl
@[go_sem] theorem spOb3_fr (f : FuncId) : spOb3.fr f = Pm.Spec.fr ((spO5.one 25 rxTrial).one 28 rxFalse) f := rfl
@[go_sem] theorem spOb3_mu (t : TypeId) : spOb3.mu t = Pm.Spec.mu ((spO5.one 25 rxTrial).one 28 rxFalse) t := rfl
@[go_sem] theorem spOb3_nf (t : TypeId) : spOb3.nf t = Pm.Spec.nf ((spO5.one 25 rxTrial).one 28 rxFalse) t := rfl
theorem spOb3_ok : SpecOk Try.prog spOb3 := Spec.one_ok rxFalse_ok (Spec.one_ok rxTrial_ok spO5_ok)
theorem SextantTrials_c (x : Sx) {sT sS : TV} (hT : IsRow Span.cs sT x.tab) (hS : IsRow Span.cs sS x.shade) (lT : x.tab.length ≤ 9000000000000) (lS : x.shade.length ≤ 9000000000000) {l : List Tr} {s : TV} (hs : IsRow Tr.cs s l) (ll : l.length ≤ 9000000000000) : PCalls Try.prog 5 [x.t sT sS, s] (.bool true) := by
  have rT := rowS_is hT
  have rS := rowS_is hS
  have rs := rowTr_is hs
  unfold rowL at rT rS rs
  simp only [unS_nil] at rT rS
  simp only [unTr_nil] at rs
  have e0 : Sx.mk x.step x.tab ⟨x.idx.lo, x.idx.hi⟩ x.wrong x.shade = x := rfl
  have hl1 := trialP_len x l
  have hl2 := falseP_len x l
  obtain ⟨R, hR⟩ : ∃ R, trialP x l = R := ⟨_, rfl⟩
  obtain ⟨Q, hQ⟩ : ∃ Q, falseP x l = Q := ⟨_, rfl⟩
  rw [hR] at hl1
  rw [hQ] at hl2
  have r1 := rowS_is (rowF1_is R.1)
  have r2 : rowL unS (rowG' R.1) = some R.1 := rowS_is (rowSp_row R.1)
  have r3 := rowI_is (rowI_row (nI Q.1))
  unfold rowL at r1 r2 r3
  simp only [unS_nil] at r1 r2
  simp only [unI_nil] at r3
  have m1 : R.1.length ≤ 9223372036854775806 := by omega
  have m2 : (nI Q.1).length ≤ 9223372036854775806 := by rw [nI_len]; omega
  refine pcalls_by Try.mixes spOb3_ok (fn := Try.f5) Try.func5 rfl (by kernel_rfl) (by show 2 ≤ _; decide) ?_
  simp (decide := true) (maxSteps := 4000000) only [go_sem, Nat.reduceAdd, Nat.reduceSub, Nat.reduceMul, Nat.reduceDiv, Nat.reduceMod, Nat.reduceLT, Nat.reduceLeDiff, Nat.reduceEqDiff, Nat.reduceBEq, Nat.reduceBNe, Nat.reduceGT, Int.reduceAdd, Int.reduceSub, Int.reduceMul, Int.reduceNeg, Int.reduceLT, Int.reduceLE, Int.reduceEq, Int.reduceNe, Int.reduceBEq, Int.reduceBNe, Int.reduceToNat, Int.reduceGT, Int.reduceGE, ↓reduceIte, decide_true, decide_false, eq_self, Nat.mul_one, Nat.zero_mul, Nat.one_mul, Int.le_refl, Nat.le_refl, Int.cast_ofNat_Int, Try.f5, Sx.t, Sx.cs, rT, rS, rs, lT, lS, ll, e0, hR, hQ, r1, r2, r3, m1, m2, beq_self_eq_true, bne_self_eq_false, Span.t, Span.cs, Bool.and_self, Bool.not_true]
end Go.Proofs.Ytjmkccckohcfkaa

/- Part Ox. -/
namespace Go.Proofs.Ytjmkccckohcfkaa
open Go.RowKit Go.Pm Go.Oc Go.Oh Go.Os
set_option maxRecDepth 100000
set_option linter.unusedVariables false

theorem slice_cells {k : Nat} {t e : TypeId} {cs : List TV} (hu : Program.underlying Try.prog t = some (.slice e)) (h : cellsOk Try.prog (k + 1) t cs) : ∃ x, cs = [x] ∧ cellsOk Try.prog (k + 1) t [x] := by
  have h' := h
  unfold cellsOk at h'
  rw [hu] at h'
  rcases h' with h' | ⟨rows, full, h', _⟩
  · exact ⟨_, h', by rw [← h']; exact h⟩
  · exact ⟨_, h', by rw [← h']; exact h⟩
theorem int_cells {k : Nat} {cs : List TV} (h : cellsOk Try.prog (k + 1) 3 cs) : ∃ n, cs = [.int .i64 n] ∧ -9223372036854775808 ≤ n ∧ n ≤ 9223372036854775807 := cellsOk_i64 (by kernel_rfl) h
theorem span_cells {k : Nat} {cs : List TV} (h : cellsOk Try.prog (k + 2) 24 cs) : ∃ s : Span, cs = s.cs ∧ (-9223372036854775808 ≤ s.lo ∧ s.lo ≤ 9223372036854775807) ∧ -9223372036854775808 ≤ s.hi ∧ s.hi ≤ 9223372036854775807 := by
  have h := cellsOk_tys (ts := [3, 3]) (by kernel_rfl) h
  obtain ⟨_, r, rfl, h1, h⟩ := seqOk_cons h
  obtain ⟨_, r, rfl, h2, h⟩ := seqOk_cons h
  cases seqOk_nil h
  obtain ⟨a, rfl, ha⟩ := int_cells h1
  obtain ⟨b, rfl, hb⟩ := int_cells h2
  exact ⟨⟨a, b⟩, rfl, ha, hb⟩
theorem ints_cells {x : TV} {k : Nat} (h : cellsOk Try.prog (k + 2) 45 [x]) : ∃ l : List Int, IsRow ic x l ∧ l.length ≤ 17592186044415 ∧ ∀ n ∈ l, -9223372036854775808 ≤ n ∧ n ≤ 9223372036854775807 := by
  obtain ⟨l, h1, h2, h3, _⟩ := cellsOk_row (e := 3) (c := ic) (p := fun n => -9223372036854775808 ≤ n ∧ n ≤ 9223372036854775807) (by kernel_rfl) (fun cs hc => int_cells hc) h
  rw [show Program.bytesOf Try.prog 3 = 8 by kernel_rfl] at h3
  unfold reachBytes at h3
  exact ⟨l, h1, by omega, h2⟩
theorem spans_cells {x : TV} {k : Nat} (h : cellsOk Try.prog (k + 3) 22 [x]) : ∃ l : List Span, IsRow Span.cs x l ∧ l.length ≤ 9000000000000 ∧ ∀ s ∈ l, (-9223372036854775808 ≤ s.lo ∧ s.lo ≤ 9223372036854775807) ∧ -9223372036854775808 ≤ s.hi ∧ s.hi ≤ 9223372036854775807 := by
  obtain ⟨l, h1, h2, h3, _⟩ := cellsOk_row (e := 24) (c := Span.cs) (p := fun s : Span => (-9223372036854775808 ≤ s.lo ∧ s.lo ≤ 9223372036854775807) ∧ -9223372036854775808 ≤ s.hi ∧ s.hi ≤ 9223372036854775807) (by kernel_rfl) (fun cs hc => span_cells hc) h
  rw [show Program.bytesOf Try.prog 24 = 16 by kernel_rfl] at h3
  unfold reachBytes at h3
  exact ⟨l, h1, by omega, h2⟩
theorem sun_cells {k : Nat} {cs : List TV} (h : cellsOk Try.prog (k + 2) 67 cs) : ∃ s : Sun, cs = s.cs ∧ True := by
  have h := cellsOk_tys (ts := [3, 3]) (by kernel_rfl) h
  obtain ⟨_, r, rfl, h1, h⟩ := seqOk_cons h
  obtain ⟨_, r, rfl, h2, h⟩ := seqOk_cons h
  cases seqOk_nil h
  obtain ⟨a, rfl, ha⟩ := int_cells h1
  obtain ⟨b, rfl, hb⟩ := int_cells h2
  exact ⟨⟨a, b⟩, rfl, trivial⟩
theorem read_cells {k : Nat} {cs : List TV} (h : cellsOk Try.prog (k + 2) 28 cs) : ∃ a b : Int, cs = [.int .i64 a, .int .i64 b] ∧ (-9223372036854775808 ≤ a ∧ a ≤ 9223372036854775807) ∧ -9223372036854775808 ≤ b ∧ b ≤ 9223372036854775807 := by
  have h := cellsOk_tys (ts := [3, 3]) (by kernel_rfl) h
  obtain ⟨_, r, rfl, h1, h⟩ := seqOk_cons h
  obtain ⟨_, r, rfl, h2, h⟩ := seqOk_cons h
  cases seqOk_nil h
  obtain ⟨a, rfl, ha⟩ := int_cells h1
  obtain ⟨b, rfl, hb⟩ := int_cells h2
  exact ⟨a, b, rfl, ha, hb⟩
theorem trial_cells {k : Nat} {cs : List TV} (h : cellsOk Try.prog (k + 3) 84 cs) : ∃ p : Tr, cs = p.cs ∧ True := by
  have h := cellsOk_tys (ts := [28, 3]) (by kernel_rfl) h
  obtain ⟨_, r, rfl, h1, h⟩ := seqOk_cons h
  obtain ⟨_, r, rfl, h2, h⟩ := seqOk_cons h
  cases seqOk_nil h
  obtain ⟨a, b, rfl, _⟩ := read_cells h1
  obtain ⟨c, rfl, _⟩ := int_cells h2
  exact ⟨⟨a, b, c⟩, rfl, trivial⟩
theorem part_cells {k : Nat} {cs : List TV} (h : cellsOk Try.prog (k + 4) 77 cs) : ∃ p : Pt, cs = p.cs ∧ decP p = true := by
  have h := cellsOk_tys (ts := [3, 3, 22]) (by kernel_rfl) h
  obtain ⟨_, r, rfl, h1, h⟩ := seqOk_cons h
  obtain ⟨_, r, rfl, h2, h⟩ := seqOk_cons h
  obtain ⟨_, r, rfl, h3, h⟩ := seqOk_cons h
  cases seqOk_nil h
  obtain ⟨a, rfl, _⟩ := int_cells h1
  obtain ⟨b, rfl, _⟩ := int_cells h2
  obtain ⟨c, rfl, h3⟩ := slice_cells (e := 24) (by kernel_rfl) h3
  obtain ⟨l, hl, ll, _⟩ := spans_cells h3
  refine ⟨⟨a, b, c⟩, rfl, ?_⟩
  unfold decP
  rw [show rowL unS (Pt.mk a b c).s = some l from rowS_is hl]
  exact decide_eq_true ll
theorem sxArg {x : TV} (h : argOk Try.prog 26 x) : ∃ (s : Sx) (sT sS : TV), x = s.t sT sS ∧ IsRow Span.cs sT s.tab ∧ IsRow Span.cs sS s.shade ∧ s.tab.length ≤ 9000000000000 ∧ s.shade.length ≤ 9000000000000 := by
  obtain ⟨cs, rfl, h'⟩ := argOk_agg (ts := [3, 22, 24, 3, 22]) (by kernel_rfl) h
  have h := cellsOk_tys (ts := [3, 22, 24, 3, 22]) (by kernel_rfl) h'
  obtain ⟨_, r, rfl, h1, h⟩ := seqOk_cons h
  obtain ⟨_, r, rfl, h2, h⟩ := seqOk_cons h
  obtain ⟨_, r, rfl, h3, h⟩ := seqOk_cons h
  obtain ⟨_, r, rfl, h4, h⟩ := seqOk_cons h
  obtain ⟨_, r, rfl, h5, h⟩ := seqOk_cons h
  cases seqOk_nil h
  obtain ⟨a, rfl, _⟩ := int_cells h1
  obtain ⟨b, rfl, h2⟩ := slice_cells (e := 24) (by kernel_rfl) h2
  obtain ⟨c, rfl, _⟩ := span_cells h3
  obtain ⟨d, rfl, _⟩ := int_cells h4
  obtain ⟨e, rfl, h5⟩ := slice_cells (e := 24) (by kernel_rfl) h5
  obtain ⟨T, hT, lT, _⟩ := spans_cells h2
  obtain ⟨S, hS, lS, _⟩ := spans_cells h5
  exact ⟨⟨a, T, c, d, S⟩, b, e, rfl, hT, hS, lT, lS⟩
theorem rdArg {x : TV} (h : argOk Try.prog 28 x) : ∃ a b : Int, x = .agg [.int .i64 a, .int .i64 b] := by
  obtain ⟨cs, rfl, h'⟩ := argOk_agg (ts := [3, 3]) (by kernel_rfl) h
  obtain ⟨a, b, rfl, _⟩ := read_cells h'
  exact ⟨a, b, rfl⟩
theorem spArg {x : TV} (h : argOk Try.prog 24 x) : ∃ s : Span, x = s.t ∧ (-9223372036854775808 ≤ s.lo ∧ s.lo ≤ 9223372036854775807) ∧ -9223372036854775808 ≤ s.hi ∧ s.hi ≤ 9223372036854775807 := by
  obtain ⟨cs, rfl, h'⟩ := argOk_agg (ts := [3, 3]) (by kernel_rfl) h
  obtain ⟨s, rfl, h1, h2⟩ := span_cells h'
  exact ⟨s, rfl, h1, h2⟩
theorem intArg {x : TV} (h : argOk Try.prog 3 x) : ∃ n, x = .int .i64 n ∧ -9223372036854775808 ≤ n ∧ n ≤ 9223372036854775807 := argOk_i64 (by kernel_rfl) h
theorem intsArg {x : TV} (h : argOk Try.prog 45 x) : ∃ l : List Int, IsRow ic x l ∧ l.length ≤ 17592186044415 ∧ ∀ n ∈ l, -9223372036854775808 ≤ n ∧ n ≤ 9223372036854775807 := ints_cells (argOk_sl (e := 3) (by kernel_rfl) h)
theorem sunsArg {x : TV} (h : argOk Try.prog 37 x) : ∃ l : List Sun, IsRow Sun.cs x l ∧ l.length ≤ 9000000000000 := by
  obtain ⟨l, h1, _, h3, _⟩ := cellsOk_row (e := 67) (c := Sun.cs) (p := fun _ => True) (by kernel_rfl) (fun cs hc => sun_cells hc) (argOk_sl (e := 67) (by kernel_rfl) h)
  rw [show Program.bytesOf Try.prog 67 = 16 by kernel_rfl] at h3
  unfold reachBytes at h3
  exact ⟨l, h1, by omega⟩
theorem trialsArg {x : TV} (h : argOk Try.prog 41 x) : ∃ l : List Tr, IsRow Tr.cs x l ∧ l.length ≤ 9000000000000 := by
  obtain ⟨l, h1, _, h3, _⟩ := cellsOk_row (e := 84) (c := Tr.cs) (p := fun _ => True) (by kernel_rfl) (fun cs hc => trial_cells hc) (argOk_sl (e := 84) (by kernel_rfl) h)
  rw [show Program.bytesOf Try.prog 84 = 24 by kernel_rfl] at h3
  unfold reachBytes at h3
  exact ⟨l, h1, by omega⟩
theorem partsArg {x : TV} (h : argOk Try.prog 50 x) : ∃ l : List Pt, IsRow Pt.cs x l ∧ l.length ≤ 9000000000000 ∧ l.all decP = true := by
  obtain ⟨l, h1, h2, h3, _⟩ := cellsOk_row (e := 77) (c := Pt.cs) (p := fun p => decP p = true) (by kernel_rfl) (fun cs hc => part_cells hc) (argOk_sl (e := 77) (by kernel_rfl) h)
  rw [show Program.bytesOf Try.prog 77 = 40 by kernel_rfl] at h3
  unfold reachBytes at h3
  exact ⟨l, h1, by omega, List.all_eq_true.2 h2⟩
end Go.Proofs.Ytjmkccckohcfkaa
