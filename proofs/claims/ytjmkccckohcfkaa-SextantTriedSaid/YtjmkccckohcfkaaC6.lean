/- What the claim leans on, text 6. -/
import Derived.Test.YtjmkccckohcfkaaC5
set_option linter.unusedSimpArgs false
set_option linter.unusedVariables false

/- Part Sr. -/
namespace Go.Os
open Go Go.Pm Go.Oc Go.Oh
def sum3 (A B C : List Span) (k : Nat) : Span := addS (addS (atS A k) (atS B k)) (atS C k)
def inBd (bound : Int) (s : Span) : Bool := decide (-bound ≤ s.lo) && decide (s.hi ≤ bound)
/-- Do three such parts fit? -/
def fitB (bound : Int) (b0 b1 b2 : Bool) (A B C : List Span) : Bool := b0 && (b1 && (b2 && (List.range A.length).all fun k => inBd bound (sum3 A B C k)))
def tlAll (l : List Span) (n : Nat) : Bool := decide (l.length = n) && l.all (spannedB · (-1000) 1000)
end Go.Os
namespace Go.Proofs.Ytjmkccckohcfkaa
open Go.RowKit Go.Pm Go.Oc Go.Oh Go.Os
set_option maxRecDepth 100000
set_option linter.unusedVariables false
set_option maxHeartbeats 8000000

theorem sIs_c (a b k : Int) (s : TV) : PCalls Try.prog 85 [.agg [.int .i64 a, .int .i64 b, s], .cptr [.int .i64 k]] (.bool (a == k)) := by
  refine pcalls_by Try.mixes noSpec_ok (fn := Try.f85) Try.func85 rfl (by kernel_rfl) (by show 2 ≤ _; decide) ?_
  simp (decide := true) (maxSteps := 4000000) only [go_sem, Nat.reduceAdd, Nat.reduceSub, Nat.reduceMul, Nat.reduceDiv, Nat.reduceMod, Nat.reduceLT, Nat.reduceLeDiff, Nat.reduceEqDiff, Nat.reduceBEq, Nat.reduceBNe, Nat.reduceGT, Int.reduceAdd, Int.reduceSub, Int.reduceMul, Int.reduceNeg, Int.reduceLT, Int.reduceLE, Int.reduceEq, Int.reduceNe, Int.reduceBEq, Int.reduceBNe, Int.reduceToNat, Int.reduceGT, Int.reduceGE, ↓reduceIte, decide_true, decide_false, eq_self, Nat.mul_one, Nat.zero_mul, Nat.one_mul, Int.le_refl, Nat.le_refl, Int.cast_ofNat_Int, Try.f85]
noncomputable def sxIs : List TV → Option TV
  | [.agg [.int .i64 a, .int .i64 b, s], .cptr [.int .i64 k]] => some (.bool (a == k))
  | _ => none
theorem sxIs_ok : ∀ xs r, sxIs xs = some r → PCalls Try.prog 85 xs r := by
  intro xs r h
  unfold sxIs at h
  split at h
  · cases h; exact sIs_c _ _ _ _
  · cases h
attribute [go_sem] sxIs
noncomputable def spRa : Pm.Spec := { noSpec with fz := fun _ => true }
@[go_sem] theorem spRa_p (f : FuncId) (xs : List TV) : spRa.p f xs = Pm.Spec.p ({ noSpec with fz := fun _ => true }) f xs := rfl
@[go_sem] theorem spRa_h (f : FuncId) (ps : List PV) (hl : List PO) : spRa.h f ps hl = Pm.Spec.h ({ noSpec with fz := fun _ => true }) f ps hl := rfl
@[go_sem] theorem spRa_fz (f : FuncId) : spRa.fz f = Pm.Spec.fz ({ noSpec with fz := fun _ => true }) f := rfl
@[go_sem] theorem spRa_fr (f : FuncId) : spRa.fr f = Pm.Spec.fr ({ noSpec with fz := fun _ => true }) f := rfl
@[go_sem] theorem spRa_mu (t : TypeId) : spRa.mu t = Pm.Spec.mu ({ noSpec with fz := fun _ => true }) t := rfl
@[go_sem] theorem spRa_nf (t : TypeId) : spRa.nf t = Pm.Spec.nf ({ noSpec with fz := fun _ => true }) t := rfl
theorem spRa_ok : SpecOk Try.prog spRa := ⟨noSpec_ok.1, noSpec_ok.2⟩
theorem sOf_c {l : List Pt} {i : Nat} {p : Pt} (hp : l[i]? = some p) (kind : Int) (f : Bool) : PCalls Try.prog 84 [.int .i64 i, .int .i64 kind, .cptr [.sl (l.flatMap Pt.cs) l.length f]] (.agg [.int .i64 p.k, .int .i64 p.p, p.s, .fn 85 [] [.cptr [.int .i64 kind]]]) := by
  have hd := flat_at Pt.cs (n := 3) (fun _ => rfl) hp
  have hlt : (i : Int) < l.length := by have := (List.getElem?_eq_some_iff.1 hp).1; omega
  refine pcalls_by Try.mixes spRa_ok (fn := Try.f84) Try.func84 rfl (by kernel_rfl) (by show 3 ≤ _; decide) ?_
  simp (decide := true) (maxSteps := 4000000) only [go_sem, Nat.reduceAdd, Nat.reduceSub, Nat.reduceMul, Nat.reduceDiv, Nat.reduceMod, Nat.reduceLT, Nat.reduceLeDiff, Nat.reduceEqDiff, Nat.reduceBEq, Nat.reduceBNe, Nat.reduceGT, Int.reduceAdd, Int.reduceSub, Int.reduceMul, Int.reduceNeg, Int.reduceLT, Int.reduceLE, Int.reduceEq, Int.reduceNe, Int.reduceBEq, Int.reduceBNe, Int.reduceToNat, Int.reduceGT, Int.reduceGE, ↓reduceIte, decide_true, decide_false, eq_self, Nat.mul_one, Nat.zero_mul, Nat.one_mul, Int.le_refl, Nat.le_refl, Int.cast_ofNat_Int, Try.f84, hd, hlt, Int.toNat_natCast, Pt.cs]
noncomputable def sxOf : List TV → Option TV
  | [.int .i64 i, .int .i64 kind, .cptr [.sl cs n f]] => match unP cs with
    | some l => if n = l.length ∧ 0 ≤ i then (match l[i.toNat]? with
      | some p => some (.agg [.int .i64 p.k, .int .i64 p.p, p.s, .fn 85 [] [.cptr [.int .i64 kind]]])
      | none => none) else none
    | none => none
  | _ => none
theorem sxOf_ok : ∀ xs r, sxOf xs = some r → PCalls Try.prog 84 xs r := by
  intro xs r h
  unfold sxOf at h
  split at h
  · split at h
    · rename_i l hl
      split at h
      · rename_i hc
        split at h
        · rename_i p hp
          cases h
          obtain ⟨rfl, h0⟩ := hc
          have := sOf_c hp
          rw [Int.toNat_of_nonneg h0, ← unP_some hl] at this
          exact this _ _
        · cases h
      · cases h
    · cases h
  · cases h
attribute [go_sem] sxOf
noncomputable def spRb : Pm.Spec := (noSpec.one 85 sxIs).one 95 sxSum
@[go_sem] theorem spRb_p (f : FuncId) (xs : List TV) : spRb.p f xs = Pm.Spec.p ((noSpec.one 85 sxIs).one 95 sxSum) f xs := rfl
@[go_sem] theorem spRb_h (f : FuncId) (ps : List PV) (hl : List PO) : spRb.h f ps hl = Pm.Spec.h ((noSpec.one 85 sxIs).one 95 sxSum) f ps hl := rfl
@[go_sem] theorem spRb_fz (f : FuncId) : spRb.fz f = Pm.Spec.fz ((noSpec.one 85 sxIs).one 95 sxSum) f := rfl
@[go_sem] theorem spRb_fr (f : FuncId) : spRb.fr f = Pm.Spec.fr ((noSpec.one 85 sxIs).one 95 sxSum) f := rfl
@[go_sem] theorem spRb_mu (t : TypeId) : spRb.mu t = Pm.Spec.mu ((noSpec.one 85 sxIs).one 95 sxSum) t := rfl
@[go_sem] theorem spRb_nf (t : TypeId) : spRb.nf t = Pm.Spec.nf ((noSpec.one 85 sxIs).one 95 sxSum) t := rfl
theorem spRb_ok : SpecOk Try.prog spRb := Spec.one_ok sxSum_ok (Spec.one_ok sxIs_ok noSpec_ok)
theorem sFit_c (bound k0 k1 k2 p0 p1 p2 c0 c1 c2 : Int) (A B C : List Span) (f0 f1 f2 f : Bool) (hb : 0 ≤ bound ∧ bound ≤ 5000) (hn : 1 ≤ A.length ∧ A.length ≤ 12) (hA : tlAll A A.length = true) (hB : tlAll B A.length = true) (hC : tlAll C A.length = true) :
    PCalls Try.prog 86 [.int .i64 bound, .sl [.int .i64 k0, .int .i64 p0, .sl (A.flatMap Span.cs) A.length f0, .fn 85 [] [.cptr [.int .i64 c0]], .int .i64 k1, .int .i64 p1, .sl (B.flatMap Span.cs) B.length f1, .fn 85 [] [.cptr [.int .i64 c1]],
      .int .i64 k2, .int .i64 p2, .sl (C.flatMap Span.cs) C.length f2, .fn 85 [] [.cptr [.int .i64 c2]]] 3 f] (.bool (fitB bound (k0 == c0) (k1 == c1) (k2 == c2) A B C)) := by
  have hBl : B.length = A.length := by unfold tlAll at hB; simp at hB; exact hB.1
  have hCl : C.length = A.length := by unfold tlAll at hC; simp at hC; exact hC.1
  have bd : ∀ (L : List Span), tlAll L A.length = true → ∀ s ∈ L, -1000 ≤ s.lo ∧ s.lo ≤ s.hi ∧ s.hi ≤ 1000 := fun L hL s hs => by
    unfold tlAll at hL
    rw [Bool.and_eq_true] at hL
    exact spannedB_iff.1 (List.all_eq_true.1 hL.2 s hs)
  refine pcalls_by Try.mixes spRb_ok (fn := Try.f86) Try.func86 rfl (by kernel_rfl) (by show 2 ≤ _; decide) ?_
  simp (decide := true) (maxSteps := 4000000) only [go_sem, Nat.reduceAdd, Nat.reduceSub, Nat.reduceMul, Nat.reduceDiv, Nat.reduceMod, Nat.reduceLT, Nat.reduceLeDiff, Nat.reduceEqDiff, Nat.reduceBEq, Nat.reduceBNe, Nat.reduceGT, Int.reduceAdd, Int.reduceSub, Int.reduceMul, Int.reduceNeg, Int.reduceLT, Int.reduceLE, Int.reduceEq, Int.reduceNe, Int.reduceBEq, Int.reduceBNe, Int.reduceToNat, Int.reduceGT, Int.reduceGE, ↓reduceIte, decide_true, decide_false, eq_self, Nat.mul_one, Nat.zero_mul, Nat.one_mul, Int.le_refl, Nat.le_refl, Int.cast_ofNat_Int, Try.f86]
  refine pwpC_loopU (A := { j : Nat // j ≤ 3 ∧ (0 < j → (k0 == c0) = true) ∧ (1 < j → (k1 == c1) = true) ∧ (2 < j → (k2 == c2) = true) }) [0, 1, 4, 9, 10] (fun j => [(11, .t (.int .i64 j.1))]) (fun _ => []) (fun j => 3 - j.1) ⟨0, by omega, by omega, by omega, by omega⟩ (by decide) (fun _ => by rfl) ?_ fun Q1 hQ1 ⟨j, hj, hj0, hj1, hj2⟩ I1 hI1 => ?_
  · simp (decide := true) (maxSteps := 4000000) only [go_sem, Nat.reduceAdd, Nat.reduceSub, Nat.reduceMul, Nat.reduceDiv, Nat.reduceMod, Nat.reduceLT, Nat.reduceLeDiff, Nat.reduceEqDiff, Nat.reduceBEq, Nat.reduceBNe, Nat.reduceGT, Int.reduceAdd, Int.reduceSub, Int.reduceMul, Int.reduceNeg, Int.reduceLT, Int.reduceLE, Int.reduceEq, Int.reduceNe, Int.reduceBEq, Int.reduceBNe, Int.reduceToNat, Int.reduceGT, Int.reduceGE, ↓reduceIte, decide_true, decide_false, eq_self, Nat.mul_one, Nat.zero_mul, Nat.one_mul, Int.le_refl, Nat.le_refl, Int.cast_ofNat_Int]
  · rcases (show j = 0 ∨ j = 1 ∨ j = 2 ∨ j = 3 by omega) with rfl | rfl | rfl | rfl
    · have d1 : (0 : Int) < 3 := by decide
      rcases (Bool.eq_false_or_eq_true (k0 == c0)).symm with hk | hk
      · simp (decide := true) (maxSteps := 4000000) only [go_sem, Nat.reduceAdd, Nat.reduceSub, Nat.reduceMul, Nat.reduceDiv, Nat.reduceMod, Nat.reduceLT, Nat.reduceLeDiff, Nat.reduceEqDiff, Nat.reduceBEq, Nat.reduceBNe, Nat.reduceGT, Int.reduceAdd, Int.reduceSub, Int.reduceMul, Int.reduceNeg, Int.reduceLT, Int.reduceLE, Int.reduceEq, Int.reduceNe, Int.reduceBEq, Int.reduceBNe, Int.reduceToNat, Int.reduceGT, Int.reduceGE, ↓reduceIte, decide_true, decide_false, eq_self, Nat.mul_one, Nat.zero_mul, Nat.one_mul, Int.le_refl, Nat.le_refl, Int.cast_ofNat_Int, d1, hk]
        refine hQ1 _ _ ?_
        simp (decide := true) (maxSteps := 4000000) only [go_sem, Nat.reduceAdd, Nat.reduceSub, Nat.reduceMul, Nat.reduceDiv, Nat.reduceMod, Nat.reduceLT, Nat.reduceLeDiff, Nat.reduceEqDiff, Nat.reduceBEq, Nat.reduceBNe, Nat.reduceGT, Int.reduceAdd, Int.reduceSub, Int.reduceMul, Int.reduceNeg, Int.reduceLT, Int.reduceLE, Int.reduceEq, Int.reduceNe, Int.reduceBEq, Int.reduceBNe, Int.reduceToNat, Int.reduceGT, Int.reduceGE, ↓reduceIte, decide_true, decide_false, eq_self, Nat.mul_one, Nat.zero_mul, Nat.one_mul, Int.le_refl, Nat.le_refl, Int.cast_ofNat_Int, fitB, hk, Bool.false_and]
      · simp (decide := true) (maxSteps := 4000000) only [go_sem, Nat.reduceAdd, Nat.reduceSub, Nat.reduceMul, Nat.reduceDiv, Nat.reduceMod, Nat.reduceLT, Nat.reduceLeDiff, Nat.reduceEqDiff, Nat.reduceBEq, Nat.reduceBNe, Nat.reduceGT, Int.reduceAdd, Int.reduceSub, Int.reduceMul, Int.reduceNeg, Int.reduceLT, Int.reduceLE, Int.reduceEq, Int.reduceNe, Int.reduceBEq, Int.reduceBNe, Int.reduceToNat, Int.reduceGT, Int.reduceGE, ↓reduceIte, decide_true, decide_false, eq_self, Nat.mul_one, Nat.zero_mul, Nat.one_mul, Int.le_refl, Nat.le_refl, Int.cast_ofNat_Int, d1, hk]
        refine hI1 _ ⟨1, by omega, fun _ => hk, by omega, by omega⟩ (by simp only; omega) ?_
        simp (decide := true) (maxSteps := 4000000) only [go_sem, Nat.reduceAdd, Nat.reduceSub, Nat.reduceMul, Nat.reduceDiv, Nat.reduceMod, Nat.reduceLT, Nat.reduceLeDiff, Nat.reduceEqDiff, Nat.reduceBEq, Nat.reduceBNe, Nat.reduceGT, Int.reduceAdd, Int.reduceSub, Int.reduceMul, Int.reduceNeg, Int.reduceLT, Int.reduceLE, Int.reduceEq, Int.reduceNe, Int.reduceBEq, Int.reduceBNe, Int.reduceToNat, Int.reduceGT, Int.reduceGE, ↓reduceIte, decide_true, decide_false, eq_self, Nat.mul_one, Nat.zero_mul, Nat.one_mul, Int.le_refl, Nat.le_refl, Int.cast_ofNat_Int, wl1]
    · have d1 : (1 : Int) < 3 := by decide
      rcases (Bool.eq_false_or_eq_true (k1 == c1)).symm with hk | hk
      · simp (decide := true) (maxSteps := 4000000) only [go_sem, Nat.reduceAdd, Nat.reduceSub, Nat.reduceMul, Nat.reduceDiv, Nat.reduceMod, Nat.reduceLT, Nat.reduceLeDiff, Nat.reduceEqDiff, Nat.reduceBEq, Nat.reduceBNe, Nat.reduceGT, Int.reduceAdd, Int.reduceSub, Int.reduceMul, Int.reduceNeg, Int.reduceLT, Int.reduceLE, Int.reduceEq, Int.reduceNe, Int.reduceBEq, Int.reduceBNe, Int.reduceToNat, Int.reduceGT, Int.reduceGE, ↓reduceIte, decide_true, decide_false, eq_self, Nat.mul_one, Nat.zero_mul, Nat.one_mul, Int.le_refl, Nat.le_refl, Int.cast_ofNat_Int, d1, hk]
        refine hQ1 _ _ ?_
        simp (decide := true) (maxSteps := 4000000) only [go_sem, Nat.reduceAdd, Nat.reduceSub, Nat.reduceMul, Nat.reduceDiv, Nat.reduceMod, Nat.reduceLT, Nat.reduceLeDiff, Nat.reduceEqDiff, Nat.reduceBEq, Nat.reduceBNe, Nat.reduceGT, Int.reduceAdd, Int.reduceSub, Int.reduceMul, Int.reduceNeg, Int.reduceLT, Int.reduceLE, Int.reduceEq, Int.reduceNe, Int.reduceBEq, Int.reduceBNe, Int.reduceToNat, Int.reduceGT, Int.reduceGE, ↓reduceIte, decide_true, decide_false, eq_self, Nat.mul_one, Nat.zero_mul, Nat.one_mul, Int.le_refl, Nat.le_refl, Int.cast_ofNat_Int, fitB, hk, hj0 (by omega), Bool.false_and, Bool.true_and]
      · simp (decide := true) (maxSteps := 4000000) only [go_sem, Nat.reduceAdd, Nat.reduceSub, Nat.reduceMul, Nat.reduceDiv, Nat.reduceMod, Nat.reduceLT, Nat.reduceLeDiff, Nat.reduceEqDiff, Nat.reduceBEq, Nat.reduceBNe, Nat.reduceGT, Int.reduceAdd, Int.reduceSub, Int.reduceMul, Int.reduceNeg, Int.reduceLT, Int.reduceLE, Int.reduceEq, Int.reduceNe, Int.reduceBEq, Int.reduceBNe, Int.reduceToNat, Int.reduceGT, Int.reduceGE, ↓reduceIte, decide_true, decide_false, eq_self, Nat.mul_one, Nat.zero_mul, Nat.one_mul, Int.le_refl, Nat.le_refl, Int.cast_ofNat_Int, d1, hk]
        refine hI1 _ ⟨2, by omega, fun _ => hj0 (by omega), fun _ => hk, by omega⟩ (by simp only; omega) ?_
        simp (decide := true) (maxSteps := 4000000) only [go_sem, Nat.reduceAdd, Nat.reduceSub, Nat.reduceMul, Nat.reduceDiv, Nat.reduceMod, Nat.reduceLT, Nat.reduceLeDiff, Nat.reduceEqDiff, Nat.reduceBEq, Nat.reduceBNe, Nat.reduceGT, Int.reduceAdd, Int.reduceSub, Int.reduceMul, Int.reduceNeg, Int.reduceLT, Int.reduceLE, Int.reduceEq, Int.reduceNe, Int.reduceBEq, Int.reduceBNe, Int.reduceToNat, Int.reduceGT, Int.reduceGE, ↓reduceIte, decide_true, decide_false, eq_self, Nat.mul_one, Nat.zero_mul, Nat.one_mul, Int.le_refl, Nat.le_refl, Int.cast_ofNat_Int, wl2]
    · have d1 : (2 : Int) < 3 := by decide
      rcases (Bool.eq_false_or_eq_true (k2 == c2)).symm with hk | hk
      · simp (decide := true) (maxSteps := 4000000) only [go_sem, Nat.reduceAdd, Nat.reduceSub, Nat.reduceMul, Nat.reduceDiv, Nat.reduceMod, Nat.reduceLT, Nat.reduceLeDiff, Nat.reduceEqDiff, Nat.reduceBEq, Nat.reduceBNe, Nat.reduceGT, Int.reduceAdd, Int.reduceSub, Int.reduceMul, Int.reduceNeg, Int.reduceLT, Int.reduceLE, Int.reduceEq, Int.reduceNe, Int.reduceBEq, Int.reduceBNe, Int.reduceToNat, Int.reduceGT, Int.reduceGE, ↓reduceIte, decide_true, decide_false, eq_self, Nat.mul_one, Nat.zero_mul, Nat.one_mul, Int.le_refl, Nat.le_refl, Int.cast_ofNat_Int, d1, hk]
        refine hQ1 _ _ ?_
        simp (decide := true) (maxSteps := 4000000) only [go_sem, Nat.reduceAdd, Nat.reduceSub, Nat.reduceMul, Nat.reduceDiv, Nat.reduceMod, Nat.reduceLT, Nat.reduceLeDiff, Nat.reduceEqDiff, Nat.reduceBEq, Nat.reduceBNe, Nat.reduceGT, Int.reduceAdd, Int.reduceSub, Int.reduceMul, Int.reduceNeg, Int.reduceLT, Int.reduceLE, Int.reduceEq, Int.reduceNe, Int.reduceBEq, Int.reduceBNe, Int.reduceToNat, Int.reduceGT, Int.reduceGE, ↓reduceIte, decide_true, decide_false, eq_self, Nat.mul_one, Nat.zero_mul, Nat.one_mul, Int.le_refl, Nat.le_refl, Int.cast_ofNat_Int, fitB, hk, hj0 (by omega), hj1 (by omega), Bool.false_and, Bool.true_and]
      · simp (decide := true) (maxSteps := 4000000) only [go_sem, Nat.reduceAdd, Nat.reduceSub, Nat.reduceMul, Nat.reduceDiv, Nat.reduceMod, Nat.reduceLT, Nat.reduceLeDiff, Nat.reduceEqDiff, Nat.reduceBEq, Nat.reduceBNe, Nat.reduceGT, Int.reduceAdd, Int.reduceSub, Int.reduceMul, Int.reduceNeg, Int.reduceLT, Int.reduceLE, Int.reduceEq, Int.reduceNe, Int.reduceBEq, Int.reduceBNe, Int.reduceToNat, Int.reduceGT, Int.reduceGE, ↓reduceIte, decide_true, decide_false, eq_self, Nat.mul_one, Nat.zero_mul, Nat.one_mul, Int.le_refl, Nat.le_refl, Int.cast_ofNat_Int, d1, hk]
        refine hI1 _ ⟨3, by omega, fun _ => hj0 (by omega), fun _ => hj1 (by omega), fun _ => hk⟩ (by simp only; omega) ?_
        simp (decide := true) (maxSteps := 4000000) only [go_sem, Nat.reduceAdd, Nat.reduceSub, Nat.reduceMul, Nat.reduceDiv, Nat.reduceMod, Nat.reduceLT, Nat.reduceLeDiff, Nat.reduceEqDiff, Nat.reduceBEq, Nat.reduceBNe, Nat.reduceGT, Int.reduceAdd, Int.reduceSub, Int.reduceMul, Int.reduceNeg, Int.reduceLT, Int.reduceLE, Int.reduceEq, Int.reduceNe, Int.reduceBEq, Int.reduceBNe, Int.reduceToNat, Int.reduceGT, Int.reduceGE, ↓reduceIte, decide_true, decide_false, eq_self, Nat.mul_one, Nat.zero_mul, Nat.one_mul, Int.le_refl, Nat.le_refl, Int.cast_ofNat_Int, wl3]
    · have hk0 := hj0 (by omega)
      have hk1 := hj1 (by omega)
      have hk2 := hj2 (by omega)
      simp (decide := true) (maxSteps := 4000000) only [go_sem, Nat.reduceAdd, Nat.reduceSub, Nat.reduceMul, Nat.reduceDiv, Nat.reduceMod, Nat.reduceLT, Nat.reduceLeDiff, Nat.reduceEqDiff, Nat.reduceBEq, Nat.reduceBNe, Nat.reduceGT, Int.reduceAdd, Int.reduceSub, Int.reduceMul, Int.reduceNeg, Int.reduceLT, Int.reduceLE, Int.reduceEq, Int.reduceNe, Int.reduceBEq, Int.reduceBNe, Int.reduceToNat, Int.reduceGT, Int.reduceGE, ↓reduceIte, decide_true, decide_false, eq_self, Nat.mul_one, Nat.zero_mul, Nat.one_mul, Int.le_refl, Nat.le_refl, Int.cast_ofNat_Int]
      refine hQ1 _ _ ?_
      have hfb : fitB bound (k0 == c0) (k1 == c1) (k2 == c2) A B C = (List.range A.length).all fun k => inBd bound (sum3 A B C k) := by unfold fitB; rw [hk0, hk1, hk2]; simp
      rw [hfb]
      simp (decide := true) (maxSteps := 4000000) only [go_sem, Nat.reduceAdd, Nat.reduceSub, Nat.reduceMul, Nat.reduceDiv, Nat.reduceMod, Nat.reduceLT, Nat.reduceLeDiff, Nat.reduceEqDiff, Nat.reduceBEq, Nat.reduceBNe, Nat.reduceGT, Int.reduceAdd, Int.reduceSub, Int.reduceMul, Int.reduceNeg, Int.reduceLT, Int.reduceLE, Int.reduceEq, Int.reduceNe, Int.reduceBEq, Int.reduceBNe, Int.reduceToNat, Int.reduceGT, Int.reduceGE, ↓reduceIte, decide_true, decide_false, eq_self, Nat.mul_one, Nat.zero_mul, Nat.one_mul, Int.le_refl, Nat.le_refl, Int.cast_ofNat_Int]
      refine pwpC_loopU (A := { k : Nat // k ≤ A.length ∧ ∀ j, j < k → inBd bound (sum3 A B C j) = true }) [0, 1, 4, 27] (fun k => [(28, .t (.int .i64 k.1))]) (fun _ => []) (fun k => A.length - k.1) ⟨0, by omega, fun j hj => by omega⟩ (by decide) (fun _ => by rfl) ?_ fun Q2 hQ2 ⟨k, hk, hkk⟩ I2 hI2 => ?_
      · simp (decide := true) (maxSteps := 4000000) only [go_sem, Nat.reduceAdd, Nat.reduceSub, Nat.reduceMul, Nat.reduceDiv, Nat.reduceMod, Nat.reduceLT, Nat.reduceLeDiff, Nat.reduceEqDiff, Nat.reduceBEq, Nat.reduceBNe, Nat.reduceGT, Int.reduceAdd, Int.reduceSub, Int.reduceMul, Int.reduceNeg, Int.reduceLT, Int.reduceLE, Int.reduceEq, Int.reduceNe, Int.reduceBEq, Int.reduceBNe, Int.reduceToNat, Int.reduceGT, Int.reduceGE, ↓reduceIte, decide_true, decide_false, eq_self, Nat.mul_one, Nat.zero_mul, Nat.one_mul, Int.le_refl, Nat.le_refl, Int.cast_ofNat_Int]
      · by_cases hlt : (k : Int) < A.length
        · obtain ⟨x, hx⟩ := get_lt (l := A) (k := k) (by omega)
          obtain ⟨y, hy⟩ := get_lt (l := B) (k := k) (by omega)
          obtain ⟨z, hz⟩ := get_lt (l := C) (k := k) (by omega)
          have dx := flat_at Span.cs (n := 2) (fun _ => rfl) hx
          have dy := flat_at Span.cs (n := 2) (fun _ => rfl) hy
          have dz := flat_at Span.cs (n := 2) (fun _ => rfl) hz
          have bx := bd A hA x (List.mem_of_getElem? hx)
          have by' := bd B hB y (List.mem_of_getElem? hy)
          have bz := bd C hC z (List.mem_of_getElem? hz)
          have hc1 : IntKind.i64.wrap (k + 1) = ((k + 1 : Nat) : Int) := by rw [wrap_in (by omega) (by omega)]; omega
          have hs3 : sum3 A B C k = addS (addS x y) z := by unfold sum3; rw [atS_eq hx, atS_eq hy, atS_eq hz]
          have hun : unS [.int .i64 x.lo, .int .i64 x.hi, .int .i64 y.lo, .int .i64 y.hi, .int .i64 z.lo, .int .i64 z.hi] = some [x, y, z] := unS_eq [x, y, z]
          have hbd : [x, y, z].all bdB = true := by
            have b1 : bdB x = true := bdB_iff.2 (by omega)
            have b2 : bdB y = true := bdB_iff.2 (by omega)
            have b3 : bdB z = true := bdB_iff.2 (by omega)
            simp [b1, b2, b3]
          have hsm : sumL [x, y, z] = addS (addS x y) z := by simp [sumL, addS]
          obtain ⟨S, hS⟩ : ∃ S, addS (addS x y) z = S := ⟨_, rfl⟩
          rw [hS] at hsm hs3
          have w0 : IntKind.i64.wrap (0 - bound) = -bound := by rw [wrap_in (by omega) (by omega)]; omega
          by_cases q1 : S.lo < -bound
          · have hf : ((List.range A.length).all fun k => inBd bound (sum3 A B C k)) = false := by
              rw [List.all_eq_false]
              refine ⟨k, List.mem_range.2 (by omega), ?_⟩
              rw [hs3]; unfold inBd; simp; intro; omega
            simp (decide := true) (maxSteps := 4000000) only [go_sem, Nat.reduceAdd, Nat.reduceSub, Nat.reduceMul, Nat.reduceDiv, Nat.reduceMod, Nat.reduceLT, Nat.reduceLeDiff, Nat.reduceEqDiff, Nat.reduceBEq, Nat.reduceBNe, Nat.reduceGT, Int.reduceAdd, Int.reduceSub, Int.reduceMul, Int.reduceNeg, Int.reduceLT, Int.reduceLE, Int.reduceEq, Int.reduceNe, Int.reduceBEq, Int.reduceBNe, Int.reduceToNat, Int.reduceGT, Int.reduceGE, ↓reduceIte, decide_true, decide_false, eq_self, Nat.mul_one, Nat.zero_mul, Nat.one_mul, Int.le_refl, Nat.le_refl, Int.cast_ofNat_Int, hlt, dx, dy, dz, Span.cs, Span.t, hBl, hCl, Int.toNat_natCast, hun, hbd, hsm, w0, q1]
            refine hQ2 _ _ ?_
            simp (decide := true) (maxSteps := 4000000) only [go_sem, Nat.reduceAdd, Nat.reduceSub, Nat.reduceMul, Nat.reduceDiv, Nat.reduceMod, Nat.reduceLT, Nat.reduceLeDiff, Nat.reduceEqDiff, Nat.reduceBEq, Nat.reduceBNe, Nat.reduceGT, Int.reduceAdd, Int.reduceSub, Int.reduceMul, Int.reduceNeg, Int.reduceLT, Int.reduceLE, Int.reduceEq, Int.reduceNe, Int.reduceBEq, Int.reduceBNe, Int.reduceToNat, Int.reduceGT, Int.reduceGE, ↓reduceIte, decide_true, decide_false, eq_self, Nat.mul_one, Nat.zero_mul, Nat.one_mul, Int.le_refl, Nat.le_refl, Int.cast_ofNat_Int, hf]
          · by_cases q2 : S.hi > bound
            · have hf : ((List.range A.length).all fun k => inBd bound (sum3 A B C k)) = false := by
                rw [List.all_eq_false]
                refine ⟨k, List.mem_range.2 (by omega), ?_⟩
                rw [hs3]; unfold inBd; simp; intro; omega
              simp (decide := true) (maxSteps := 4000000) only [go_sem, Nat.reduceAdd, Nat.reduceSub, Nat.reduceMul, Nat.reduceDiv, Nat.reduceMod, Nat.reduceLT, Nat.reduceLeDiff, Nat.reduceEqDiff, Nat.reduceBEq, Nat.reduceBNe, Nat.reduceGT, Int.reduceAdd, Int.reduceSub, Int.reduceMul, Int.reduceNeg, Int.reduceLT, Int.reduceLE, Int.reduceEq, Int.reduceNe, Int.reduceBEq, Int.reduceBNe, Int.reduceToNat, Int.reduceGT, Int.reduceGE, ↓reduceIte, decide_true, decide_false, eq_self, Nat.mul_one, Nat.zero_mul, Nat.one_mul, Int.le_refl, Nat.le_refl, Int.cast_ofNat_Int, hlt, dx, dy, dz, Span.cs, Span.t, hBl, hCl, Int.toNat_natCast, hun, hbd, hsm, w0, q1, q2]
              refine hQ2 _ _ ?_
              simp (decide := true) (maxSteps := 4000000) only [go_sem, Nat.reduceAdd, Nat.reduceSub, Nat.reduceMul, Nat.reduceDiv, Nat.reduceMod, Nat.reduceLT, Nat.reduceLeDiff, Nat.reduceEqDiff, Nat.reduceBEq, Nat.reduceBNe, Nat.reduceGT, Int.reduceAdd, Int.reduceSub, Int.reduceMul, Int.reduceNeg, Int.reduceLT, Int.reduceLE, Int.reduceEq, Int.reduceNe, Int.reduceBEq, Int.reduceBNe, Int.reduceToNat, Int.reduceGT, Int.reduceGE, ↓reduceIte, decide_true, decide_false, eq_self, Nat.mul_one, Nat.zero_mul, Nat.one_mul, Int.le_refl, Nat.le_refl, Int.cast_ofNat_Int, hf]
            · simp (decide := true) (maxSteps := 4000000) only [go_sem, Nat.reduceAdd, Nat.reduceSub, Nat.reduceMul, Nat.reduceDiv, Nat.reduceMod, Nat.reduceLT, Nat.reduceLeDiff, Nat.reduceEqDiff, Nat.reduceBEq, Nat.reduceBNe, Nat.reduceGT, Int.reduceAdd, Int.reduceSub, Int.reduceMul, Int.reduceNeg, Int.reduceLT, Int.reduceLE, Int.reduceEq, Int.reduceNe, Int.reduceBEq, Int.reduceBNe, Int.reduceToNat, Int.reduceGT, Int.reduceGE, ↓reduceIte, decide_true, decide_false, eq_self, Nat.mul_one, Nat.zero_mul, Nat.one_mul, Int.le_refl, Nat.le_refl, Int.cast_ofNat_Int, hlt, dx, dy, dz, Span.cs, Span.t, hBl, hCl, Int.toNat_natCast, hun, hbd, hsm, w0, q1, q2]
              refine hI2 _ ⟨k + 1, by omega, fun j hj => ?_⟩ (by simp only; omega) ?_
              · by_cases e : j = k
                · subst e; rw [hs3]; unfold inBd; simp; omega
                · exact hkk j (by omega)
              · simp (decide := true) (maxSteps := 4000000) only [go_sem, Nat.reduceAdd, Nat.reduceSub, Nat.reduceMul, Nat.reduceDiv, Nat.reduceMod, Nat.reduceLT, Nat.reduceLeDiff, Nat.reduceEqDiff, Nat.reduceBEq, Nat.reduceBNe, Nat.reduceGT, Int.reduceAdd, Int.reduceSub, Int.reduceMul, Int.reduceNeg, Int.reduceLT, Int.reduceLE, Int.reduceEq, Int.reduceNe, Int.reduceBEq, Int.reduceBNe, Int.reduceToNat, Int.reduceGT, Int.reduceGE, ↓reduceIte, decide_true, decide_false, eq_self, Nat.mul_one, Nat.zero_mul, Nat.one_mul, Int.le_refl, Nat.le_refl, Int.cast_ofNat_Int, hc1, hBl, hCl]
        · have hke : k = A.length := by omega
          have ht : ((List.range A.length).all fun k => inBd bound (sum3 A B C k)) = true := List.all_eq_true.2 fun j hj => hkk j (by rw [hke]; exact List.mem_range.1 hj)
          subst hke
          simp (decide := true) (maxSteps := 4000000) only [go_sem, Nat.reduceAdd, Nat.reduceSub, Nat.reduceMul, Nat.reduceDiv, Nat.reduceMod, Nat.reduceLT, Nat.reduceLeDiff, Nat.reduceEqDiff, Nat.reduceBEq, Nat.reduceBNe, Nat.reduceGT, Int.reduceAdd, Int.reduceSub, Int.reduceMul, Int.reduceNeg, Int.reduceLT, Int.reduceLE, Int.reduceEq, Int.reduceNe, Int.reduceBEq, Int.reduceBNe, Int.reduceToNat, Int.reduceGT, Int.reduceGE, ↓reduceIte, decide_true, decide_false, eq_self, Nat.mul_one, Nat.zero_mul, Nat.one_mul, Int.le_refl, Nat.le_refl, Int.cast_ofNat_Int, hlt]
          refine hQ2 _ _ ?_
          simp (decide := true) (maxSteps := 4000000) only [go_sem, Nat.reduceAdd, Nat.reduceSub, Nat.reduceMul, Nat.reduceDiv, Nat.reduceMod, Nat.reduceLT, Nat.reduceLeDiff, Nat.reduceEqDiff, Nat.reduceBEq, Nat.reduceBNe, Nat.reduceGT, Int.reduceAdd, Int.reduceSub, Int.reduceMul, Int.reduceNeg, Int.reduceLT, Int.reduceLE, Int.reduceEq, Int.reduceNe, Int.reduceBEq, Int.reduceBNe, Int.reduceToNat, Int.reduceGT, Int.reduceGE, ↓reduceIte, decide_true, decide_false, eq_self, Nat.mul_one, Nat.zero_mul, Nat.one_mul, Int.le_refl, Nat.le_refl, Int.cast_ofNat_Int, ht]
theorem sFit_c' (bound k0 k1 k2 p0 p1 p2 c0 c1 c2 : Int) (A B C : List Span) (f0 f1 f2 f : Bool) (hb : 0 ≤ bound ∧ bound ≤ 5000) (hn : 1 ≤ A.length ∧ A.length ≤ 12) (hA : tlAll A A.length = true) (hB : tlAll B A.length = true) (hC : tlAll C A.length = true) :
    PCalls Try.prog 86 [.int .i64 bound, .sl [.int .i64 k0, .int .i64 p0, .sl (A.flatMap Span.cs) A.length f0, .fn 85 [] [.cptr [.int .i64 c0]], .int .i64 k1, .int .i64 p1, .sl (B.flatMap Span.cs) A.length f1, .fn 85 [] [.cptr [.int .i64 c1]],
      .int .i64 k2, .int .i64 p2, .sl (C.flatMap Span.cs) A.length f2, .fn 85 [] [.cptr [.int .i64 c2]]] 3 f] (.bool (fitB bound (k0 == c0) (k1 == c1) (k2 == c2) A B C)) := by
  have := sFit_c bound k0 k1 k2 p0 p1 p2 c0 c1 c2 A B C f0 f1 f2 f hb hn hA hB hC
  have eB : B.length = A.length := by unfold tlAll at hB; simp at hB; exact hB.1
  have eC : C.length = A.length := by unfold tlAll at hC; simp at hC; exact hC.1
  rw [eB, eC] at this
  exact this
noncomputable def sxFit : List TV → Option TV
  | [.int .i64 bound, .sl [.int .i64 k0, .int .i64 p0, .sl us na f0, .fn F0 [] [.cptr [.int .i64 c0]], .int .i64 k1, .int .i64 p1, .sl vs nb f1, .fn F1 [] [.cptr [.int .i64 c1]], .int .i64 k2, .int .i64 p2, .sl ws nc f2, .fn F2 [] [.cptr [.int .i64 c2]]] 3 f] => match unS us, unS vs, unS ws with
    | some A, some B, some C => if (F0 = 85 ∧ F1 = 85 ∧ F2 = 85) ∧ (na = A.length ∧ nb = A.length ∧ nc = A.length) ∧ (0 ≤ bound ∧ bound ≤ 5000) ∧ (1 ≤ A.length ∧ A.length ≤ 12) ∧ tlAll A A.length = true ∧ tlAll B A.length = true ∧ tlAll C A.length = true then
        some (.bool (fitB bound (k0 == c0) (k1 == c1) (k2 == c2) A B C)) else none
    | _, _, _ => none
  | _ => none
theorem sxFit_ok : ∀ xs r, sxFit xs = some r → PCalls Try.prog 86 xs r := by
  intro xs r h
  unfold sxFit at h
  split at h
  · split at h
    · rename_i A B C hA hB hC
      split at h
      · rename_i hc
        cases h
        obtain ⟨⟨rfl, rfl, rfl⟩, ⟨rfl, rfl, rfl⟩, hb, hn, h1, h2, h3⟩ := hc
        rw [unS_some hA, unS_some hB, unS_some hC]
        exact sFit_c' _ _ _ _ _ _ _ _ _ _ A B C _ _ _ _ hb hn h1 h2 h3
      · cases h
    · cases h
  · cases h
attribute [go_sem] sxFit
noncomputable def sxIsStock : List TV → Option TV
  | [s] => match rowL unP s with
    | some l => if l.length ≤ 9000000000000 ∧ l.all decP = true then some (.bool (stockB l)) else none
    | none => none
  | _ => none
theorem sxIsStock_ok : ∀ xs r, sxIsStock xs = some r → PCalls Try.prog 83 xs r := by
  intro xs r h
  unfold sxIsStock at h
  split at h
  · split at h
    · rename_i l hl
      have hl := rowL_some (un := unP) (by first | rfl | exact unP_nil) (@unP_some) hl
      split at h
      · rename_i hc; cases h; exact sIsStock_c hl hc.1 hc.2
      · cases h
    · cases h
  · cases h
attribute [go_sem] sxIsStock
end Go.Proofs.Ytjmkccckohcfkaa

/- Part Ss. -/
namespace Go.Os
open Go Go.Pm Go.Oc Go.Oh
structure AS where
  parts : Option (Nat × Nat × Nat)
  price : Int
def partsT : Option (Nat × Nat × Nat) → TV
  | none => .nilSl
  | some (a, b, c) => .sl [.int .i64 a, .int .i64 b, .int .i64 c] 3 true
noncomputable def prc (l : List Pt) (i : Nat) : Int := match l[i]? with | some x => x.p | none => 0
noncomputable def knd (l : List Pt) (i : Nat) : Int := match l[i]? with | some x => x.k | none => 0
noncomputable def ers (l : List Pt) (i : Nat) : List Span := match l[i]? with | some x => errs x | none => []
noncomputable def cost3 (l : List Pt) (a b c : Nat) : Int := prc l a + prc l b + prc l c
noncomputable def fit3 (bound : Int) (l : List Pt) (a b c : Nat) : Bool := fitB bound (knd l a == 0) (knd l b == 1) (knd l c == 2) (ers l a) (ers l b) (ers l c)
noncomputable def asStep (bound : Int) (l : List Pt) (a b : Nat) (st : AS) (c : Nat) : AS :=
  if (st.parts.isNone || decide (cost3 l a b c < st.price)) && fit3 bound l a b c then ⟨some (a, b, c), cost3 l a b c⟩ else st
noncomputable def asC (bound : Int) (l : List Pt) (a b : Nat) (st : AS) (k : Nat) : AS := (List.range k).foldl (asStep bound l a b) st
noncomputable def asB (bound : Int) (l : List Pt) (a : Nat) (st : AS) (k : Nat) : AS := (List.range k).foldl (fun st b => asC bound l a b st l.length) st
noncomputable def asA (bound : Int) (l : List Pt) (k : Nat) : AS := (List.range k).foldl (fun st a => asB bound l a st l.length) ⟨none, 0⟩
theorem asC_succ (bound : Int) (l : List Pt) (a b : Nat) (st : AS) (k : Nat) : asC bound l a b st (k + 1) = asStep bound l a b (asC bound l a b st k) k := by unfold asC; rw [List.range_succ, List.foldl_append]; rfl
theorem asB_succ (bound : Int) (l : List Pt) (a : Nat) (st : AS) (k : Nat) : asB bound l a st (k + 1) = asC bound l a k (asB bound l a st k) l.length := by unfold asB; rw [List.range_succ, List.foldl_append]; rfl
theorem asA_succ (bound : Int) (l : List Pt) (k : Nat) : asA bound l (k + 1) = asB bound l k (asA bound l k) l.length := by unfold asA; rw [List.range_succ, List.foldl_append]; rfl
/-- What Assemble returns. -/
noncomputable def asmP (l : List Pt) (bound : Int) : TV × Int × Int :=
  if stockB l && inB bound 0 5000 then (if (asA bound l l.length).parts.isNone then (.nilSl, 0, 4) else (partsT (asA bound l l.length).parts, (asA bound l l.length).price, 0)) else (.nilSl, 0, 55)
/-- A part of a stock that is one. -/
theorem stock_at {l : List Pt} (h : stockB l = true) (hd : l.all decP = true) {i : Nat} {x : Pt} (hx : l[i]? = some x) :
    (0 ≤ x.k ∧ x.k ≤ 2) ∧ (0 ≤ x.p ∧ x.p ≤ 1000) ∧ (2 ≤ (errs x).length ∧ (errs x).length ≤ 12) ∧ tlAll (errs x) (firstN l) = true ∧ ∃ f, x.s = .sl ((errs x).flatMap Span.cs) (errs x).length f := by
  unfold stockB at h
  rw [Bool.and_eq_true] at h
  have h2 := List.all_eq_true.1 h.2 x (List.mem_of_getElem? hx)
  unfold ptB at h2
  simp only [Bool.and_eq_true, inB_iff, decide_eq_true_eq] at h2
  obtain ⟨h3, h4, h5, h6, h7⟩ := h2
  obtain ⟨hr, _⟩ := decP_row (List.all_eq_true.1 hd x (List.mem_of_getElem? hx))
  refine ⟨h3, h4, by omega, by unfold tlAll; rw [h6, h7]; simp, hr.ne (by omega)⟩
end Go.Os
namespace Go.Proofs.Ytjmkccckohcfkaa
open Go.RowKit Go.Pm Go.Oc Go.Oh Go.Os
set_option maxRecDepth 100000
set_option linter.unusedVariables false
set_option maxHeartbeats 8000000

noncomputable def spTa : Pm.Spec := { ((((spSa.one 83 sxIsStock).one 84 sxOf).one 86 sxFit)) with fz := fun _ => true }
@[go_sem] theorem spTa_p (f : FuncId) (xs : List TV) : spTa.p f xs = Pm.Spec.p ({ ((((spSa.one 83 sxIsStock).one 84 sxOf).one 86 sxFit)) with fz := fun _ => true }) f xs := rfl
@[go_sem] theorem spTa_h (f : FuncId) (ps : List PV) (hl : List PO) : spTa.h f ps hl = Pm.Spec.h ({ ((((spSa.one 83 sxIsStock).one 84 sxOf).one 86 sxFit)) with fz := fun _ => true }) f ps hl := rfl
@[go_sem] theorem spTa_fz (f : FuncId) : spTa.fz f = Pm.Spec.fz ({ ((((spSa.one 83 sxIsStock).one 84 sxOf).one 86 sxFit)) with fz := fun _ => true }) f := rfl
@[go_sem] theorem spTa_fr (f : FuncId) : spTa.fr f = Pm.Spec.fr ({ ((((spSa.one 83 sxIsStock).one 84 sxOf).one 86 sxFit)) with fz := fun _ => true }) f := rfl
@[go_sem] theorem spTa_mu (t : TypeId) : spTa.mu t = Pm.Spec.mu ({ ((((spSa.one 83 sxIsStock).one 84 sxOf).one 86 sxFit)) with fz := fun _ => true }) t := rfl
@[go_sem] theorem spTa_nf (t : TypeId) : spTa.nf t = Pm.Spec.nf ({ ((((spSa.one 83 sxIsStock).one 84 sxOf).one 86 sxFit)) with fz := fun _ => true }) t := rfl
theorem spTa_ok : SpecOk Try.prog spTa := ⟨(Spec.one_ok sxFit_ok (Spec.one_ok sxOf_ok (Spec.one_ok sxIsStock_ok spSa_ok))).1, (Spec.one_ok sxFit_ok (Spec.one_ok sxOf_ok (Spec.one_ok sxIsStock_ok spSa_ok))).2⟩
theorem sAssemble_c {l : List Pt} {s : TV} (hs : IsRow Pt.cs s l) (ll : l.length ≤ 9000000000000) (hd : l.all decP = true) (bound : Int) : PCalls Try.prog 30 [s, .int .i64 bound] (.tup [(asmP l bound).1, .int .i64 (asmP l bound).2.1, .int .i64 (asmP l bound).2.2]) := by
  have rs := rowP_is hs
  unfold rowL at rs
  simp only [unP_nil] at rs
  refine pcalls_by Try.mixes spTa_ok (fn := Try.f30) Try.func30 rfl (by kernel_rfl) (by show 2 ≤ _; decide) ?_
  unfold asmP
  cases hst : stockB l with
  | false => rcases hs with ⟨rfl, rfl⟩ | ⟨g, rfl⟩ <;> simp (decide := true) (maxSteps := 4000000) only [go_sem, Nat.reduceAdd, Nat.reduceSub, Nat.reduceMul, Nat.reduceDiv, Nat.reduceMod, Nat.reduceLT, Nat.reduceLeDiff, Nat.reduceEqDiff, Nat.reduceBEq, Nat.reduceBNe, Nat.reduceGT, Int.reduceAdd, Int.reduceSub, Int.reduceMul, Int.reduceNeg, Int.reduceLT, Int.reduceLE, Int.reduceEq, Int.reduceNe, Int.reduceBEq, Int.reduceBNe, Int.reduceToNat, Int.reduceGT, Int.reduceGE, ↓reduceIte, decide_true, decide_false, eq_self, Nat.mul_one, Nat.zero_mul, Nat.one_mul, Int.le_refl, Nat.le_refl, Int.cast_ofNat_Int, Try.f30, unP_eq, unP_nil, ll, hd, hst, Bool.false_and]
  | true =>
    have h3 : 3 ≤ l.length ∧ l.length ≤ 12 := by
      unfold stockB at hst
      rw [Bool.and_eq_true, inB_iff] at hst
      omega
    obtain ⟨g, rfl⟩ := hs.ne (by omega)
    cases hbd : inB bound 0 5000 with
    | false => simp (decide := true) (maxSteps := 4000000) only [go_sem, Nat.reduceAdd, Nat.reduceSub, Nat.reduceMul, Nat.reduceDiv, Nat.reduceMod, Nat.reduceLT, Nat.reduceLeDiff, Nat.reduceEqDiff, Nat.reduceBEq, Nat.reduceBNe, Nat.reduceGT, Int.reduceAdd, Int.reduceSub, Int.reduceMul, Int.reduceNeg, Int.reduceLT, Int.reduceLE, Int.reduceEq, Int.reduceNe, Int.reduceBEq, Int.reduceBNe, Int.reduceToNat, Int.reduceGT, Int.reduceGE, ↓reduceIte, decide_true, decide_false, eq_self, Nat.mul_one, Nat.zero_mul, Nat.one_mul, Int.le_refl, Nat.le_refl, Int.cast_ofNat_Int, Try.f30, unP_eq, ll, hd, hst, hbd, Bool.and_false]
    | true =>
      have hb := inB_iff.1 hbd
      simp (decide := true) (maxSteps := 4000000) only [go_sem, Nat.reduceAdd, Nat.reduceSub, Nat.reduceMul, Nat.reduceDiv, Nat.reduceMod, Nat.reduceLT, Nat.reduceLeDiff, Nat.reduceEqDiff, Nat.reduceBEq, Nat.reduceBNe, Nat.reduceGT, Int.reduceAdd, Int.reduceSub, Int.reduceMul, Int.reduceNeg, Int.reduceLT, Int.reduceLE, Int.reduceEq, Int.reduceNe, Int.reduceBEq, Int.reduceBNe, Int.reduceToNat, Int.reduceGT, Int.reduceGE, ↓reduceIte, decide_true, decide_false, eq_self, Nat.mul_one, Nat.zero_mul, Nat.one_mul, Int.le_refl, Nat.le_refl, Int.cast_ofNat_Int, Try.f30, unP_eq, ll, hd, hst, hbd, Bool.and_self]
      refine pwpC_loopU (A := { k : Nat // k ≤ l.length }) [1, 2, 7, 23] (fun k => [(24, .t (.int .i64 k.1)), (4, .t (partsT (asA bound l k.1).parts)), (5, .t (.int .i64 (asA bound l k.1).price))]) (fun _ => []) (fun k => l.length - k.1) ⟨0, by omega⟩ (by decide) (fun _ => by rfl) ?_ fun Q1 hQ1 ⟨a, ha⟩ I1 hI1 => ?_
      · simp (decide := true) (maxSteps := 4000000) only [go_sem, Nat.reduceAdd, Nat.reduceSub, Nat.reduceMul, Nat.reduceDiv, Nat.reduceMod, Nat.reduceLT, Nat.reduceLeDiff, Nat.reduceEqDiff, Nat.reduceBEq, Nat.reduceBNe, Nat.reduceGT, Int.reduceAdd, Int.reduceSub, Int.reduceMul, Int.reduceNeg, Int.reduceLT, Int.reduceLE, Int.reduceEq, Int.reduceNe, Int.reduceBEq, Int.reduceBNe, Int.reduceToNat, Int.reduceGT, Int.reduceGE, ↓reduceIte, decide_true, decide_false, eq_self, Nat.mul_one, Nat.zero_mul, Nat.one_mul, Int.le_refl, Nat.le_refl, Int.cast_ofNat_Int, asA, List.range_zero, List.foldl_nil, partsT]
      · by_cases hlt : (a : Int) < l.length
        · have hca : IntKind.i64.wrap (a + 1) = ((a + 1 : Nat) : Int) := by rw [wrap_in (by omega) (by omega)]; omega
          have hsa := asA_succ bound l a
          obtain ⟨SA, hSA⟩ : ∃ SA, asA bound l a = SA := ⟨_, rfl⟩
          rw [hSA] at hsa
          obtain ⟨pa, hpa⟩ := get_lt (l := l) (k := a) (by omega)
          simp (decide := true) (maxSteps := 4000000) only [go_sem, Nat.reduceAdd, Nat.reduceSub, Nat.reduceMul, Nat.reduceDiv, Nat.reduceMod, Nat.reduceLT, Nat.reduceLeDiff, Nat.reduceEqDiff, Nat.reduceBEq, Nat.reduceBNe, Nat.reduceGT, Int.reduceAdd, Int.reduceSub, Int.reduceMul, Int.reduceNeg, Int.reduceLT, Int.reduceLE, Int.reduceEq, Int.reduceNe, Int.reduceBEq, Int.reduceBNe, Int.reduceToNat, Int.reduceGT, Int.reduceGE, ↓reduceIte, decide_true, decide_false, eq_self, Nat.mul_one, Nat.zero_mul, Nat.one_mul, Int.le_refl, Nat.le_refl, Int.cast_ofNat_Int, hlt, hSA]
          refine pwpC_loopU (A := { k : Nat // k ≤ l.length }) [1, 2, 7, 23, 24, 8, 28] (fun k => [(29, .t (.int .i64 k.1)), (4, .t (partsT (asB bound l a SA k.1).parts)), (5, .t (.int .i64 (asB bound l a SA k.1).price))]) (fun _ => []) (fun k => l.length - k.1) ⟨0, by omega⟩ (by decide) (fun _ => by rfl) ?_ fun Q2 hQ2 ⟨b, hb'⟩ I2 hI2 => ?_
          · simp (decide := true) (maxSteps := 4000000) only [go_sem, Nat.reduceAdd, Nat.reduceSub, Nat.reduceMul, Nat.reduceDiv, Nat.reduceMod, Nat.reduceLT, Nat.reduceLeDiff, Nat.reduceEqDiff, Nat.reduceBEq, Nat.reduceBNe, Nat.reduceGT, Int.reduceAdd, Int.reduceSub, Int.reduceMul, Int.reduceNeg, Int.reduceLT, Int.reduceLE, Int.reduceEq, Int.reduceNe, Int.reduceBEq, Int.reduceBNe, Int.reduceToNat, Int.reduceGT, Int.reduceGE, ↓reduceIte, decide_true, decide_false, eq_self, Nat.mul_one, Nat.zero_mul, Nat.one_mul, Int.le_refl, Nat.le_refl, Int.cast_ofNat_Int, asB, List.range_zero, List.foldl_nil]
          · by_cases hlt2 : (b : Int) < l.length
            · have hcb : IntKind.i64.wrap (b + 1) = ((b + 1 : Nat) : Int) := by rw [wrap_in (by omega) (by omega)]; omega
              have hsb := asB_succ bound l a SA b
              obtain ⟨SB, hSB⟩ : ∃ SB, asB bound l a SA b = SB := ⟨_, rfl⟩
              rw [hSB] at hsb
              obtain ⟨pb, hpb⟩ := get_lt (l := l) (k := b) (by omega)
              simp (decide := true) (maxSteps := 4000000) only [go_sem, Nat.reduceAdd, Nat.reduceSub, Nat.reduceMul, Nat.reduceDiv, Nat.reduceMod, Nat.reduceLT, Nat.reduceLeDiff, Nat.reduceEqDiff, Nat.reduceBEq, Nat.reduceBNe, Nat.reduceGT, Int.reduceAdd, Int.reduceSub, Int.reduceMul, Int.reduceNeg, Int.reduceLT, Int.reduceLE, Int.reduceEq, Int.reduceNe, Int.reduceBEq, Int.reduceBNe, Int.reduceToNat, Int.reduceGT, Int.reduceGE, ↓reduceIte, decide_true, decide_false, eq_self, Nat.mul_one, Nat.zero_mul, Nat.one_mul, Int.le_refl, Nat.le_refl, Int.cast_ofNat_Int, hlt2, hSB]
              refine pwpC_loopU (A := { k : Nat // k ≤ l.length }) [1, 2, 7, 23, 24, 8, 28, 29, 9, 33] (fun k => [(34, .t (.int .i64 k.1)), (4, .t (partsT (asC bound l a b SB k.1).parts)), (5, .t (.int .i64 (asC bound l a b SB k.1).price))]) (fun _ => []) (fun k => l.length - k.1) ⟨0, by omega⟩ (by decide) (fun _ => by rfl) ?_ fun Q3 hQ3 ⟨c, hc'⟩ I3 hI3 => ?_
              · simp (decide := true) (maxSteps := 4000000) only [go_sem, Nat.reduceAdd, Nat.reduceSub, Nat.reduceMul, Nat.reduceDiv, Nat.reduceMod, Nat.reduceLT, Nat.reduceLeDiff, Nat.reduceEqDiff, Nat.reduceBEq, Nat.reduceBNe, Nat.reduceGT, Int.reduceAdd, Int.reduceSub, Int.reduceMul, Int.reduceNeg, Int.reduceLT, Int.reduceLE, Int.reduceEq, Int.reduceNe, Int.reduceBEq, Int.reduceBNe, Int.reduceToNat, Int.reduceGT, Int.reduceGE, ↓reduceIte, decide_true, decide_false, eq_self, Nat.mul_one, Nat.zero_mul, Nat.one_mul, Int.le_refl, Nat.le_refl, Int.cast_ofNat_Int, asC, List.range_zero, List.foldl_nil]
              · by_cases hlt3 : (c : Int) < l.length
                · have hcc : IntKind.i64.wrap (c + 1) = ((c + 1 : Nat) : Int) := by rw [wrap_in (by omega) (by omega)]; omega
                  have hsc := asC_succ bound l a b SB c
                  obtain ⟨pc, hpc⟩ := get_lt (l := l) (k := c) (by omega)
                  have da := flat_at Pt.cs (n := 3) (fun _ => rfl) hpa
                  have db := flat_at Pt.cs (n := 3) (fun _ => rfl) hpb
                  have dc := flat_at Pt.cs (n := 3) (fun _ => rfl) hpc
                  obtain ⟨ga1, ga2, ga3, ga4, fa, ga5⟩ := stock_at hst hd hpa
                  obtain ⟨gb1, gb2, gb3, gb4, fb, gb5⟩ := stock_at hst hd hpb
                  obtain ⟨gc1, gc2, gc3, gc4, fc, gc5⟩ := stock_at hst hd hpc
                  have hcost : cost3 l a b c = pa.p + pb.p + pc.p := by unfold cost3 prc; rw [hpa, hpb, hpc]
                  have hfit : fit3 bound l a b c = fitB bound (pa.k == 0) (pb.k == 1) (pc.k == 2) (errs pa) (errs pb) (errs pc) := by unfold fit3 knd ers; rw [hpa, hpb, hpc]
                  have ea : (errs pa).length = firstN l := by unfold tlAll at ga4; simp at ga4; exact ga4.1
                  have eb : (errs pb).length = firstN l := by unfold tlAll at gb4; simp at gb4; exact gb4.1
                  have ec : (errs pc).length = firstN l := by unfold tlAll at gc4; simp at gc4; exact gc4.1
                  obtain ⟨F, hF⟩ : ∃ F, firstN l = F := ⟨_, rfl⟩
                  rw [hF] at ga4 gb4 gc4 ea eb ec
                  have w1 : IntKind.i64.wrap (pa.p + pb.p) = pa.p + pb.p := wrap_in (by omega) (by omega)
                  have w2 : IntKind.i64.wrap (pa.p + pb.p + pc.p) = cost3 l a b c := by rw [hcost]; exact wrap_in (by omega) (by omega)
                  have hF12 : 1 ≤ F ∧ F ≤ 12 := by omega
                  obtain ⟨CO, hCO⟩ : ∃ CO, cost3 l a b c = CO := ⟨_, rfl⟩
                  obtain ⟨FI, hFI⟩ : ∃ FI, fit3 bound l a b c = FI := ⟨_, rfl⟩
                  rw [hFI] at hfit
                  rw [hCO] at w2
                  obtain ⟨ST, hST⟩ : ∃ ST, asC bound l a b SB c = ST := ⟨_, rfl⟩
                  rw [hST] at hsc
                  unfold asStep at hsc
                  rw [hCO, hFI] at hsc
                  obtain ⟨P, pr⟩ := ST
                  cases P with
                  | none =>
                    simp (decide := true) (maxSteps := 4000000) only [go_sem, Nat.reduceAdd, Nat.reduceSub, Nat.reduceMul, Nat.reduceDiv, Nat.reduceMod, Nat.reduceLT, Nat.reduceLeDiff, Nat.reduceEqDiff, Nat.reduceBEq, Nat.reduceBNe, Nat.reduceGT, Int.reduceAdd, Int.reduceSub, Int.reduceMul, Int.reduceNeg, Int.reduceLT, Int.reduceLE, Int.reduceEq, Int.reduceNe, Int.reduceBEq, Int.reduceBNe, Int.reduceToNat, Int.reduceGT, Int.reduceGE, ↓reduceIte, decide_true, decide_false, eq_self, Nat.mul_one, Nat.zero_mul, Nat.one_mul, Int.le_refl, Nat.le_refl, Int.cast_ofNat_Int, hlt, hlt2, hlt3, hST, partsT, hpa, hpb, hpc, unP_eq, unS_eq, ga5, gb5, gc5, ea, eb, ec, da, db, dc, Pt.cs, Int.toNat_natCast, w1, w2, hb, hF12, ga4, gb4, gc4, ← hfit]
                    cases FI with
                    | false =>
                      simp (decide := true) (maxSteps := 4000000) only [go_sem, Nat.reduceAdd, Nat.reduceSub, Nat.reduceMul, Nat.reduceDiv, Nat.reduceMod, Nat.reduceLT, Nat.reduceLeDiff, Nat.reduceEqDiff, Nat.reduceBEq, Nat.reduceBNe, Nat.reduceGT, Int.reduceAdd, Int.reduceSub, Int.reduceMul, Int.reduceNeg, Int.reduceLT, Int.reduceLE, Int.reduceEq, Int.reduceNe, Int.reduceBEq, Int.reduceBNe, Int.reduceToNat, Int.reduceGT, Int.reduceGE, ↓reduceIte, decide_true, decide_false, eq_self, Nat.mul_one, Nat.zero_mul, Nat.one_mul, Int.le_refl, Nat.le_refl, Int.cast_ofNat_Int]
                      refine hI3 _ ⟨c + 1, by omega⟩ (by simp only; omega) ?_
                      simp (decide := true) (maxSteps := 4000000) only [go_sem, Nat.reduceAdd, Nat.reduceSub, Nat.reduceMul, Nat.reduceDiv, Nat.reduceMod, Nat.reduceLT, Nat.reduceLeDiff, Nat.reduceEqDiff, Nat.reduceBEq, Nat.reduceBNe, Nat.reduceGT, Int.reduceAdd, Int.reduceSub, Int.reduceMul, Int.reduceNeg, Int.reduceLT, Int.reduceLE, Int.reduceEq, Int.reduceNe, Int.reduceBEq, Int.reduceBNe, Int.reduceToNat, Int.reduceGT, Int.reduceGE, ↓reduceIte, decide_true, decide_false, eq_self, Nat.mul_one, Nat.zero_mul, Nat.one_mul, Int.le_refl, Nat.le_refl, Int.cast_ofNat_Int, hcc, hsc, Option.isNone_none, Bool.true_or, Bool.true_and, Bool.and_false, partsT]
                    | true =>
                      simp (decide := true) (maxSteps := 4000000) only [go_sem, Nat.reduceAdd, Nat.reduceSub, Nat.reduceMul, Nat.reduceDiv, Nat.reduceMod, Nat.reduceLT, Nat.reduceLeDiff, Nat.reduceEqDiff, Nat.reduceBEq, Nat.reduceBNe, Nat.reduceGT, Int.reduceAdd, Int.reduceSub, Int.reduceMul, Int.reduceNeg, Int.reduceLT, Int.reduceLE, Int.reduceEq, Int.reduceNe, Int.reduceBEq, Int.reduceBNe, Int.reduceToNat, Int.reduceGT, Int.reduceGE, ↓reduceIte, decide_true, decide_false, eq_self, Nat.mul_one, Nat.zero_mul, Nat.one_mul, Int.le_refl, Nat.le_refl, Int.cast_ofNat_Int]
                      refine hI3 _ ⟨c + 1, by omega⟩ (by simp only; omega) ?_
                      simp (decide := true) (maxSteps := 4000000) only [go_sem, Nat.reduceAdd, Nat.reduceSub, Nat.reduceMul, Nat.reduceDiv, Nat.reduceMod, Nat.reduceLT, Nat.reduceLeDiff, Nat.reduceEqDiff, Nat.reduceBEq, Nat.reduceBNe, Nat.reduceGT, Int.reduceAdd, Int.reduceSub, Int.reduceMul, Int.reduceNeg, Int.reduceLT, Int.reduceLE, Int.reduceEq, Int.reduceNe, Int.reduceBEq, Int.reduceBNe, Int.reduceToNat, Int.reduceGT, Int.reduceGE, ↓reduceIte, decide_true, decide_false, eq_self, Nat.mul_one, Nat.zero_mul, Nat.one_mul, Int.le_refl, Nat.le_refl, Int.cast_ofNat_Int, hcc, hsc, Option.isNone_none, Bool.true_or, Bool.true_and, Bool.and_true, partsT]
                  | some P =>
                    obtain ⟨P1, P2, P3⟩ := P
                    simp (decide := true) (maxSteps := 4000000) only [go_sem, Nat.reduceAdd, Nat.reduceSub, Nat.reduceMul, Nat.reduceDiv, Nat.reduceMod, Nat.reduceLT, Nat.reduceLeDiff, Nat.reduceEqDiff, Nat.reduceBEq, Nat.reduceBNe, Nat.reduceGT, Int.reduceAdd, Int.reduceSub, Int.reduceMul, Int.reduceNeg, Int.reduceLT, Int.reduceLE, Int.reduceEq, Int.reduceNe, Int.reduceBEq, Int.reduceBNe, Int.reduceToNat, Int.reduceGT, Int.reduceGE, ↓reduceIte, decide_true, decide_false, eq_self, Nat.mul_one, Nat.zero_mul, Nat.one_mul, Int.le_refl, Nat.le_refl, Int.cast_ofNat_Int, hlt, hlt2, hlt3, hST, partsT, hpa, hpb, hpc, unP_eq, unS_eq, ga5, gb5, gc5, ea, eb, ec, da, db, dc, Pt.cs, Int.toNat_natCast, w1, w2, hb, hF12, ga4, gb4, gc4, ← hfit]
                    by_cases hlt4 : CO < pr
                    · cases FI with
                      | false =>
                        simp (decide := true) (maxSteps := 4000000) only [go_sem, Nat.reduceAdd, Nat.reduceSub, Nat.reduceMul, Nat.reduceDiv, Nat.reduceMod, Nat.reduceLT, Nat.reduceLeDiff, Nat.reduceEqDiff, Nat.reduceBEq, Nat.reduceBNe, Nat.reduceGT, Int.reduceAdd, Int.reduceSub, Int.reduceMul, Int.reduceNeg, Int.reduceLT, Int.reduceLE, Int.reduceEq, Int.reduceNe, Int.reduceBEq, Int.reduceBNe, Int.reduceToNat, Int.reduceGT, Int.reduceGE, ↓reduceIte, decide_true, decide_false, eq_self, Nat.mul_one, Nat.zero_mul, Nat.one_mul, Int.le_refl, Nat.le_refl, Int.cast_ofNat_Int, hlt4, Bool.and_false]
                        refine hI3 _ ⟨c + 1, by omega⟩ (by simp only; omega) ?_
                        simp (decide := true) (maxSteps := 4000000) only [go_sem, Nat.reduceAdd, Nat.reduceSub, Nat.reduceMul, Nat.reduceDiv, Nat.reduceMod, Nat.reduceLT, Nat.reduceLeDiff, Nat.reduceEqDiff, Nat.reduceBEq, Nat.reduceBNe, Nat.reduceGT, Int.reduceAdd, Int.reduceSub, Int.reduceMul, Int.reduceNeg, Int.reduceLT, Int.reduceLE, Int.reduceEq, Int.reduceNe, Int.reduceBEq, Int.reduceBNe, Int.reduceToNat, Int.reduceGT, Int.reduceGE, ↓reduceIte, decide_true, decide_false, eq_self, Nat.mul_one, Nat.zero_mul, Nat.one_mul, Int.le_refl, Nat.le_refl, Int.cast_ofNat_Int, hcc, hsc, Option.isNone_some, Bool.false_or, Bool.and_false, partsT]
                      | true =>
                        simp (decide := true) (maxSteps := 4000000) only [go_sem, Nat.reduceAdd, Nat.reduceSub, Nat.reduceMul, Nat.reduceDiv, Nat.reduceMod, Nat.reduceLT, Nat.reduceLeDiff, Nat.reduceEqDiff, Nat.reduceBEq, Nat.reduceBNe, Nat.reduceGT, Int.reduceAdd, Int.reduceSub, Int.reduceMul, Int.reduceNeg, Int.reduceLT, Int.reduceLE, Int.reduceEq, Int.reduceNe, Int.reduceBEq, Int.reduceBNe, Int.reduceToNat, Int.reduceGT, Int.reduceGE, ↓reduceIte, decide_true, decide_false, eq_self, Nat.mul_one, Nat.zero_mul, Nat.one_mul, Int.le_refl, Nat.le_refl, Int.cast_ofNat_Int, hlt4, Bool.and_true]
                        refine hI3 _ ⟨c + 1, by omega⟩ (by simp only; omega) ?_
                        simp (decide := true) (maxSteps := 4000000) only [go_sem, Nat.reduceAdd, Nat.reduceSub, Nat.reduceMul, Nat.reduceDiv, Nat.reduceMod, Nat.reduceLT, Nat.reduceLeDiff, Nat.reduceEqDiff, Nat.reduceBEq, Nat.reduceBNe, Nat.reduceGT, Int.reduceAdd, Int.reduceSub, Int.reduceMul, Int.reduceNeg, Int.reduceLT, Int.reduceLE, Int.reduceEq, Int.reduceNe, Int.reduceBEq, Int.reduceBNe, Int.reduceToNat, Int.reduceGT, Int.reduceGE, ↓reduceIte, decide_true, decide_false, eq_self, Nat.mul_one, Nat.zero_mul, Nat.one_mul, Int.le_refl, Nat.le_refl, Int.cast_ofNat_Int, hcc, hsc, hlt4, Option.isNone_some, Bool.false_or, Bool.and_true, partsT]
                    · simp (decide := true) (maxSteps := 4000000) only [go_sem, Nat.reduceAdd, Nat.reduceSub, Nat.reduceMul, Nat.reduceDiv, Nat.reduceMod, Nat.reduceLT, Nat.reduceLeDiff, Nat.reduceEqDiff, Nat.reduceBEq, Nat.reduceBNe, Nat.reduceGT, Int.reduceAdd, Int.reduceSub, Int.reduceMul, Int.reduceNeg, Int.reduceLT, Int.reduceLE, Int.reduceEq, Int.reduceNe, Int.reduceBEq, Int.reduceBNe, Int.reduceToNat, Int.reduceGT, Int.reduceGE, ↓reduceIte, decide_true, decide_false, eq_self, Nat.mul_one, Nat.zero_mul, Nat.one_mul, Int.le_refl, Nat.le_refl, Int.cast_ofNat_Int, hlt4, Bool.false_and]
                      refine hI3 _ ⟨c + 1, by omega⟩ (by simp only; omega) ?_
                      simp (decide := true) (maxSteps := 4000000) only [go_sem, Nat.reduceAdd, Nat.reduceSub, Nat.reduceMul, Nat.reduceDiv, Nat.reduceMod, Nat.reduceLT, Nat.reduceLeDiff, Nat.reduceEqDiff, Nat.reduceBEq, Nat.reduceBNe, Nat.reduceGT, Int.reduceAdd, Int.reduceSub, Int.reduceMul, Int.reduceNeg, Int.reduceLT, Int.reduceLE, Int.reduceEq, Int.reduceNe, Int.reduceBEq, Int.reduceBNe, Int.reduceToNat, Int.reduceGT, Int.reduceGE, ↓reduceIte, decide_true, decide_false, eq_self, Nat.mul_one, Nat.zero_mul, Nat.one_mul, Int.le_refl, Nat.le_refl, Int.cast_ofNat_Int, hcc, hsc, hlt4, Option.isNone_some, Bool.false_or, Bool.false_and, partsT]
                · have hke : c = l.length := by omega
                  subst hke
                  simp (decide := true) (maxSteps := 4000000) only [go_sem, Nat.reduceAdd, Nat.reduceSub, Nat.reduceMul, Nat.reduceDiv, Nat.reduceMod, Nat.reduceLT, Nat.reduceLeDiff, Nat.reduceEqDiff, Nat.reduceBEq, Nat.reduceBNe, Nat.reduceGT, Int.reduceAdd, Int.reduceSub, Int.reduceMul, Int.reduceNeg, Int.reduceLT, Int.reduceLE, Int.reduceEq, Int.reduceNe, Int.reduceBEq, Int.reduceBNe, Int.reduceToNat, Int.reduceGT, Int.reduceGE, ↓reduceIte, decide_true, decide_false, eq_self, Nat.mul_one, Nat.zero_mul, Nat.one_mul, Int.le_refl, Nat.le_refl, Int.cast_ofNat_Int, hlt3]
                  refine hQ3 _ _ ?_
                  simp (decide := true) (maxSteps := 4000000) only [go_sem, Nat.reduceAdd, Nat.reduceSub, Nat.reduceMul, Nat.reduceDiv, Nat.reduceMod, Nat.reduceLT, Nat.reduceLeDiff, Nat.reduceEqDiff, Nat.reduceBEq, Nat.reduceBNe, Nat.reduceGT, Int.reduceAdd, Int.reduceSub, Int.reduceMul, Int.reduceNeg, Int.reduceLT, Int.reduceLE, Int.reduceEq, Int.reduceNe, Int.reduceBEq, Int.reduceBNe, Int.reduceToNat, Int.reduceGT, Int.reduceGE, ↓reduceIte, decide_true, decide_false, eq_self, Nat.mul_one, Nat.zero_mul, Nat.one_mul, Int.le_refl, Nat.le_refl, Int.cast_ofNat_Int]
                  refine hI2 _ ⟨b + 1, by omega⟩ (by simp only; omega) ?_
                  simp (decide := true) (maxSteps := 4000000) only [go_sem, Nat.reduceAdd, Nat.reduceSub, Nat.reduceMul, Nat.reduceDiv, Nat.reduceMod, Nat.reduceLT, Nat.reduceLeDiff, Nat.reduceEqDiff, Nat.reduceBEq, Nat.reduceBNe, Nat.reduceGT, Int.reduceAdd, Int.reduceSub, Int.reduceMul, Int.reduceNeg, Int.reduceLT, Int.reduceLE, Int.reduceEq, Int.reduceNe, Int.reduceBEq, Int.reduceBNe, Int.reduceToNat, Int.reduceGT, Int.reduceGE, ↓reduceIte, decide_true, decide_false, eq_self, Nat.mul_one, Nat.zero_mul, Nat.one_mul, Int.le_refl, Nat.le_refl, Int.cast_ofNat_Int, hcb, hsb]
            · have hke : b = l.length := by omega
              subst hke
              simp (decide := true) (maxSteps := 4000000) only [go_sem, Nat.reduceAdd, Nat.reduceSub, Nat.reduceMul, Nat.reduceDiv, Nat.reduceMod, Nat.reduceLT, Nat.reduceLeDiff, Nat.reduceEqDiff, Nat.reduceBEq, Nat.reduceBNe, Nat.reduceGT, Int.reduceAdd, Int.reduceSub, Int.reduceMul, Int.reduceNeg, Int.reduceLT, Int.reduceLE, Int.reduceEq, Int.reduceNe, Int.reduceBEq, Int.reduceBNe, Int.reduceToNat, Int.reduceGT, Int.reduceGE, ↓reduceIte, decide_true, decide_false, eq_self, Nat.mul_one, Nat.zero_mul, Nat.one_mul, Int.le_refl, Nat.le_refl, Int.cast_ofNat_Int, hlt2]
              refine hQ2 _ _ ?_
              simp (decide := true) (maxSteps := 4000000) only [go_sem, Nat.reduceAdd, Nat.reduceSub, Nat.reduceMul, Nat.reduceDiv, Nat.reduceMod, Nat.reduceLT, Nat.reduceLeDiff, Nat.reduceEqDiff, Nat.reduceBEq, Nat.reduceBNe, Nat.reduceGT, Int.reduceAdd, Int.reduceSub, Int.reduceMul, Int.reduceNeg, Int.reduceLT, Int.reduceLE, Int.reduceEq, Int.reduceNe, Int.reduceBEq, Int.reduceBNe, Int.reduceToNat, Int.reduceGT, Int.reduceGE, ↓reduceIte, decide_true, decide_false, eq_self, Nat.mul_one, Nat.zero_mul, Nat.one_mul, Int.le_refl, Nat.le_refl, Int.cast_ofNat_Int]
              refine hI1 _ ⟨a + 1, by omega⟩ (by simp only; omega) ?_
              simp (decide := true) (maxSteps := 4000000) only [go_sem, Nat.reduceAdd, Nat.reduceSub, Nat.reduceMul, Nat.reduceDiv, Nat.reduceMod, Nat.reduceLT, Nat.reduceLeDiff, Nat.reduceEqDiff, Nat.reduceBEq, Nat.reduceBNe, Nat.reduceGT, Int.reduceAdd, Int.reduceSub, Int.reduceMul, Int.reduceNeg, Int.reduceLT, Int.reduceLE, Int.reduceEq, Int.reduceNe, Int.reduceBEq, Int.reduceBNe, Int.reduceToNat, Int.reduceGT, Int.reduceGE, ↓reduceIte, decide_true, decide_false, eq_self, Nat.mul_one, Nat.zero_mul, Nat.one_mul, Int.le_refl, Nat.le_refl, Int.cast_ofNat_Int, hca, hsa]
        · have hke : a = l.length := by omega
          subst hke
          simp (decide := true) (maxSteps := 4000000) only [go_sem, Nat.reduceAdd, Nat.reduceSub, Nat.reduceMul, Nat.reduceDiv, Nat.reduceMod, Nat.reduceLT, Nat.reduceLeDiff, Nat.reduceEqDiff, Nat.reduceBEq, Nat.reduceBNe, Nat.reduceGT, Int.reduceAdd, Int.reduceSub, Int.reduceMul, Int.reduceNeg, Int.reduceLT, Int.reduceLE, Int.reduceEq, Int.reduceNe, Int.reduceBEq, Int.reduceBNe, Int.reduceToNat, Int.reduceGT, Int.reduceGE, ↓reduceIte, decide_true, decide_false, eq_self, Nat.mul_one, Nat.zero_mul, Nat.one_mul, Int.le_refl, Nat.le_refl, Int.cast_ofNat_Int, hlt]
          refine hQ1 _ _ ?_
          obtain ⟨ST, hST⟩ : ∃ ST, asA bound l l.length = ST := ⟨_, rfl⟩
          rw [hST]
          obtain ⟨P, pr⟩ := ST
          cases P with
          | none => simp (decide := true) (maxSteps := 4000000) only [go_sem, Nat.reduceAdd, Nat.reduceSub, Nat.reduceMul, Nat.reduceDiv, Nat.reduceMod, Nat.reduceLT, Nat.reduceLeDiff, Nat.reduceEqDiff, Nat.reduceBEq, Nat.reduceBNe, Nat.reduceGT, Int.reduceAdd, Int.reduceSub, Int.reduceMul, Int.reduceNeg, Int.reduceLT, Int.reduceLE, Int.reduceEq, Int.reduceNe, Int.reduceBEq, Int.reduceBNe, Int.reduceToNat, Int.reduceGT, Int.reduceGE, ↓reduceIte, decide_true, decide_false, eq_self, Nat.mul_one, Nat.zero_mul, Nat.one_mul, Int.le_refl, Nat.le_refl, Int.cast_ofNat_Int, partsT, Option.isNone_none]
          | some P =>
            obtain ⟨a, b, c⟩ := P
            simp (decide := true) (maxSteps := 4000000) only [go_sem, Nat.reduceAdd, Nat.reduceSub, Nat.reduceMul, Nat.reduceDiv, Nat.reduceMod, Nat.reduceLT, Nat.reduceLeDiff, Nat.reduceEqDiff, Nat.reduceBEq, Nat.reduceBNe, Nat.reduceGT, Int.reduceAdd, Int.reduceSub, Int.reduceMul, Int.reduceNeg, Int.reduceLT, Int.reduceLE, Int.reduceEq, Int.reduceNe, Int.reduceBEq, Int.reduceBNe, Int.reduceToNat, Int.reduceGT, Int.reduceGE, ↓reduceIte, decide_true, decide_false, eq_self, Nat.mul_one, Nat.zero_mul, Nat.one_mul, Int.le_refl, Nat.le_refl, Int.cast_ofNat_Int, partsT, Option.isNone_some]
end Go.Proofs.Ytjmkccckohcfkaa

/- Part Oa. -/
namespace Go.Os
open Go Go.Pm Go.Oc Go.Oh
set_option maxRecDepth 100000
/-- The errors of a part, read by a program. -/
def unSc : List TV → Option (List Span)
  | [] => some []
  | .int .i64 a :: .int .i64 b :: r => (unSc r).map (⟨a, b⟩ :: ·)
  | _ => none
theorem unSc_eq : ∀ l : List Span, unSc (l.flatMap Span.cs) = some l
  | [] => rfl
  | p :: l => by
    rw [List.flatMap_cons]
    show (unSc (l.flatMap Span.cs)).map _ = _
    rw [unSc_eq l]; rfl
theorem unSc_some : ∀ {cs : List TV} {l : List Span}, unSc cs = some l → cs = l.flatMap Span.cs := by
  intro cs
  fun_induction unSc cs with
  | case1 => intro l h; cases h; rfl
  | case2 a b r ih =>
    intro l h
    cases hr : unSc r with
    | none => rw [hr] at h; cases h
    | some m =>
      rw [hr] at h
      cases h
      rw [List.flatMap_cons, ← ih hr]; rfl
  | case3 => intro l h; cases h
theorem unS_c (cs : List TV) : unS cs = unSc cs := by
  cases h : unSc cs with
  | some l => rw [unSc_some h]; exact unS_eq l
  | none =>
    cases h' : unS cs with
    | none => rfl
    | some l => rw [unS_some h', unSc_eq] at h; cases h
def errsC (x : Pt) : List Span := match x.s with
  | .sl cs n _ => match unSc cs with
    | some l => if n = l.length then l else []
    | none => []
  | _ => []
theorem errs_c : errs = errsC := by
  funext x
  unfold errs errsC rowL
  cases x.s <;> simp only [unS_c] <;> try rfl
  rename_i cs n f
  cases unSc cs with
  | none => rfl
  | some l => by_cases h : n = l.length <;> simp [h]
def ptG (er : Pt → List Span) (n : Nat) (x : Pt) : Bool := inB x.k 0 2 && (inB x.p 0 1000 && (inB (er x).length 2 12 && (decide ((er x).length = n) && (er x).all (spannedB · (-1000) 1000))))
def firstG (er : Pt → List Span) (l : List Pt) : Nat := match l[0]? with | some x => (er x).length | none => 0
def stockG (er : Pt → List Span) (l : List Pt) : Bool := inB l.length 3 12 && l.all (ptG er (firstG er l))
def prcG (l : List Pt) (i : Nat) : Int := match l[i]? with | some x => x.p | none => 0
def kndG (l : List Pt) (i : Nat) : Int := match l[i]? with | some x => x.k | none => 0
def ersG (er : Pt → List Span) (l : List Pt) (i : Nat) : List Span := match l[i]? with | some x => er x | none => []
def costG (l : List Pt) (a b c : Nat) : Int := prcG l a + prcG l b + prcG l c
def fitG (er : Pt → List Span) (bound : Int) (l : List Pt) (a b c : Nat) : Bool := fitB bound (kndG l a == 0) (kndG l b == 1) (kndG l c == 2) (ersG er l a) (ersG er l b) (ersG er l c)
def stepG (er : Pt → List Span) (bound : Int) (l : List Pt) (a b : Nat) (st : AS) (c : Nat) : AS :=
  if (st.parts.isNone || decide (costG l a b c < st.price)) && fitG er bound l a b c then ⟨some (a, b, c), costG l a b c⟩ else st
def asG (er : Pt → List Span) (bound : Int) (l : List Pt) : AS := (List.range l.length).foldl (fun st a => (List.range l.length).foldl (fun st b => (List.range l.length).foldl (stepG er bound l a b) st) st) ⟨none, 0⟩
theorem asA_G (bound : Int) (l : List Pt) : asA bound l l.length = asG errs bound l := rfl
def asmN (er : Pt → List Span) (l : List Pt) (bound : Int) : Option (Nat × Nat × Nat) × Int × Int :=
  if stockG er l && inB bound 0 5000 then (if (asG er bound l).parts.isNone then (none, 0, 4) else ((asG er bound l).parts, (asG er bound l).price, 0)) else (none, 0, 55)
theorem asmP_N (l : List Pt) (bound : Int) : asmP l bound = (partsT (asmN errsC l bound).1, (asmN errsC l bound).2.1, (asmN errsC l bound).2.2) := by
  rw [← errs_c]
  unfold asmP asmN
  rw [asA_G, show stockB l = stockG errs l from rfl]
  split
  · split <;> rfl
  · rfl
def ownX : Sx := ⟨36000, [⟨0, 0⟩, ⟨-10, 10⟩, ⟨20, 40⟩], ⟨-30, -20⟩, 5, [⟨0, 6⟩, ⟨-4, 4⟩]⟩
def sunsX : List Sun := [⟨1915, 1865⟩, ⟨1912, 1862⟩]
def trialsX : List Tr := [⟨36000, 0, 35985⟩, ⟨72000, 0, 72010⟩, ⟨36000, 0, 35960⟩]
def rw2 (a b c d : Int) : TV := .sl [.int .i64 a, .int .i64 b, .int .i64 c, .int .i64 d] 2 true
def stockX : List Pt := [⟨0, 50, rw2 0 4 0 10⟩, ⟨0, 30, rw2 (-3) 3 (-12) 12⟩, ⟨1, 20, rw2 0 0 2 6⟩, ⟨2, 10, rw2 (-2) 2 (-2) 2⟩, ⟨2, 25, rw2 0 1 0 1⟩]
deriving instance DecidableEq for Span
theorem exRead : readP ownX 54000 1 = (⟨53970, 54016⟩, 0) := by decide +kernel
theorem exIndex : indexP ownX ⟨1880, 1900⟩ sunsX = (⟨-28, -22⟩, ⟨1885, 1892⟩, 0) := by decide +kernel
theorem exTrial : trialP ownX (trialsX.take 2) = ([⟨0, 0⟩, ⟨0, 10⟩, ⟨25, 40⟩], ⟨-30, -20⟩, 0) := by decide +kernel
theorem exFalse : falseP ownX trialsX = ([0, 2], 0) := by decide +kernel
theorem exClass : classP ownX = (2, 54, 0) := by decide +kernel
theorem exStock : stockX.all decP = true := by
  have e : ∀ x ∈ stockX, decP x = true := fun x hx => by
    unfold decP rowL
    simp only [unS_c]
    unfold stockX at hx
    simp only [List.mem_cons, List.not_mem_nil, or_false] at hx
    rcases hx with rfl | rfl | rfl | rfl | rfl <;> decide
  exact List.all_eq_true.2 e
theorem exAsm : asmP stockX 20 = (.sl [.int .i64 1, .int .i64 2, .int .i64 3] 3 true, 60, 0) := by
  rw [asmP_N, show asmN errsC stockX 20 = (some (1, 2, 3), 60, 0) by decide +kernel]; rfl
end Go.Os
namespace Go.Proofs.Ytjmkccckohcfkaa
open Go.RowKit Go.Pm Go.Oc Go.Oh Go.Os
set_option maxRecDepth 100000
set_option linter.unusedVariables false
set_option maxHeartbeats 4000000

noncomputable def sxIndex : List TV → Option TV
  | [.agg [.int .i64 a0, sT, .int .i64 a1, .int .i64 a2, .int .i64 a3, sS], .agg [.int .i64 p, .int .i64 q], s] => match rowL unS sT, rowL unS sS, rowL unSun s with
    | some tab, some shade, some l => if tab.length ≤ 9000000000000 ∧ shade.length ≤ 9000000000000 ∧ l.length ≤ 9000000000000 then some (.tup [(indexP (⟨a0, tab, ⟨a1, a2⟩, a3, shade⟩ : Sx) ⟨p, q⟩ l).1.t, (indexP (⟨a0, tab, ⟨a1, a2⟩, a3, shade⟩ : Sx) ⟨p, q⟩ l).2.1.t, .int .i64 (indexP (⟨a0, tab, ⟨a1, a2⟩, a3, shade⟩ : Sx) ⟨p, q⟩ l).2.2]) else none
    | _, _, _ => none
  | _ => none
theorem sxIndex_ok : ∀ xs r, sxIndex xs = some r → PCalls Try.prog 22 xs r := by
  intro xs r h
  unfold sxIndex at h
  split at h
  · split at h
    · rename_i tab shade l hT hS hl
      have hT := rowL_some (un := unS) unS_nil (@unS_some) hT
      have hS := rowL_some (un := unS) unS_nil (@unS_some) hS
      have hl := rowL_some (un := unSun) unSun_nil (@unSun_some) hl
      split at h
      · rename_i hc; cases h; exact sIndex_c ⟨_, tab, ⟨_, _⟩, _, shade⟩ hT hS hc.1 hc.2.1 ⟨_, _⟩ hl hc.2.2
      · cases h
    · cases h
  · cases h
attribute [go_sem] sxIndex
noncomputable def sxTrial : List TV → Option TV
  | [.agg [.int .i64 a0, sT, .int .i64 a1, .int .i64 a2, .int .i64 a3, sS], s] => match rowL unS sT, rowL unS sS, rowL unTr s with
    | some tab, some shade, some l => if tab.length ≤ 9000000000000 ∧ shade.length ≤ 9000000000000 ∧ l.length ≤ 9000000000000 then some (.tup [rowF1 (trialP (⟨a0, tab, ⟨a1, a2⟩, a3, shade⟩ : Sx) l).1, (trialP (⟨a0, tab, ⟨a1, a2⟩, a3, shade⟩ : Sx) l).2.1.t, .int .i64 (trialP (⟨a0, tab, ⟨a1, a2⟩, a3, shade⟩ : Sx) l).2.2]) else none
    | _, _, _ => none
  | _ => none
theorem sxTrial_ok : ∀ xs r, sxTrial xs = some r → PCalls Try.prog 24 xs r := by
  intro xs r h
  unfold sxTrial at h
  split at h
  · split at h
    · rename_i tab shade l hT hS hl
      have hT := rowL_some (un := unS) unS_nil (@unS_some) hT
      have hS := rowL_some (un := unS) unS_nil (@unS_some) hS
      have hl := rowL_some (un := unTr) unTr_nil (@unTr_some) hl
      split at h
      · rename_i hc; cases h; exact sTrial_c ⟨_, tab, ⟨_, _⟩, _, shade⟩ hT hS hc.1 hc.2.1 hl hc.2.2
      · cases h
    · cases h
  · cases h
attribute [go_sem] sxTrial
noncomputable def sxFalse : List TV → Option TV
  | [.agg [.int .i64 a0, sT, .int .i64 a1, .int .i64 a2, .int .i64 a3, sS], s] => match rowL unS sT, rowL unS sS, rowL unTr s with
    | some tab, some shade, some l => if tab.length ≤ 9000000000000 ∧ shade.length ≤ 9000000000000 ∧ l.length ≤ 9000000000000 then some (.tup [rowI (nI (falseP (⟨a0, tab, ⟨a1, a2⟩, a3, shade⟩ : Sx) l).1), .int .i64 (falseP (⟨a0, tab, ⟨a1, a2⟩, a3, shade⟩ : Sx) l).2]) else none
    | _, _, _ => none
  | _ => none
theorem sxFalse_ok : ∀ xs r, sxFalse xs = some r → PCalls Try.prog 27 xs r := by
  intro xs r h
  unfold sxFalse at h
  split at h
  · split at h
    · rename_i tab shade l hT hS hl
      have hT := rowL_some (un := unS) unS_nil (@unS_some) hT
      have hS := rowL_some (un := unS) unS_nil (@unS_some) hS
      have hl := rowL_some (un := unTr) unTr_nil (@unTr_some) hl
      split at h
      · rename_i hc; cases h; exact sFalse_c ⟨_, tab, ⟨_, _⟩, _, shade⟩ hT hS hc.1 hc.2.1 hl hc.2.2
      · cases h
    · cases h
  · cases h
attribute [go_sem] sxFalse
noncomputable def sxAssemble : List TV → Option TV
  | [s, .int .i64 b] => match rowL unP s with
    | some l => if l.length ≤ 9000000000000 ∧ l.all decP = true then some (.tup [(asmP l b).1, .int .i64 (asmP l b).2.1, .int .i64 (asmP l b).2.2]) else none
    | none => none
  | _ => none
theorem sxAssemble_ok : ∀ xs r, sxAssemble xs = some r → PCalls Try.prog 30 xs r := by
  intro xs r h
  unfold sxAssemble at h
  split at h
  · split at h
    · rename_i l hl
      have hl := rowL_some (un := unP) (by first | rfl | exact unP_nil) (@unP_some) hl
      split at h
      · rename_i hc; cases h; exact sAssemble_c hl hc.1 hc.2 _
      · cases h
    · cases h
  · cases h
attribute [go_sem] sxAssemble
noncomputable def spO1 : Pm.Spec := ((((((spH.one 17 sxCheck).one 15 sxRead).one 19 sxClass).one 22 sxIndex).one 24 sxTrial).one 27 sxFalse).one 30 sxAssemble
@[go_sem] theorem spO1_p (f : FuncId) (xs : List TV) : spO1.p f xs = Pm.Spec.p (((((((spH.one 17 sxCheck).one 15 sxRead).one 19 sxClass).one 22 sxIndex).one 24 sxTrial).one 27 sxFalse).one 30 sxAssemble) f xs := rfl
@[go_sem] theorem spO1_h (f : FuncId) (ps : List PV) (hl : List PO) : spO1.h f ps hl = Pm.Spec.h (((((((spH.one 17 sxCheck).one 15 sxRead).one 19 sxClass).one 22 sxIndex).one 24 sxTrial).one 27 sxFalse).one 30 sxAssemble) f ps hl := rfl
@[go_sem] theorem spO1_fz (f : FuncId) : spO1.fz f = Pm.Spec.fz (((((((spH.one 17 sxCheck).one 15 sxRead).one 19 sxClass).one 22 sxIndex).one 24 sxTrial).one 27 sxFalse).one 30 sxAssemble) f := rfl
@[go_sem] theorem spO1_fr (f : FuncId) : spO1.fr f = Pm.Spec.fr (((((((spH.one 17 sxCheck).one 15 sxRead).one 19 sxClass).one 22 sxIndex).one 24 sxTrial).one 27 sxFalse).one 30 sxAssemble) f := rfl
@[go_sem] theorem spO1_mu (t : TypeId) : spO1.mu t = Pm.Spec.mu (((((((spH.one 17 sxCheck).one 15 sxRead).one 19 sxClass).one 22 sxIndex).one 24 sxTrial).one 27 sxFalse).one 30 sxAssemble) t := rfl
@[go_sem] theorem spO1_nf (t : TypeId) : spO1.nf t = Pm.Spec.nf (((((((spH.one 17 sxCheck).one 15 sxRead).one 19 sxClass).one 22 sxIndex).one 24 sxTrial).one 27 sxFalse).one 30 sxAssemble) t := rfl
theorem spO1_ok : SpecOk Try.prog spO1 := Spec.one_ok sxAssemble_ok (Spec.one_ok sxFalse_ok (Spec.one_ok sxTrial_ok (Spec.one_ok sxIndex_ok (Spec.one_ok sxClass_ok (Spec.one_ok sxRead_ok (Spec.one_ok sxCheck_ok spH_ok))))))
theorem oTo_c (a b : Int) : PCalls Try.prog 40 [.int .i64 a, .int .i64 b] (.agg [.int .i64 a, .int .i64 b]) := by
  refine pcalls_by Try.mixes noSpec_ok (fn := Try.f40) Try.func40 rfl (by kernel_rfl) (by show 2 ≤ _; decide) ?_
  simp (decide := true) (maxSteps := 4000000) only [go_sem, Nat.reduceAdd, Nat.reduceSub, Nat.reduceMul, Nat.reduceDiv, Nat.reduceMod, Nat.reduceLT, Nat.reduceLeDiff, Nat.reduceEqDiff, Nat.reduceBEq, Nat.reduceBNe, Nat.reduceGT, Int.reduceAdd, Int.reduceSub, Int.reduceMul, Int.reduceNeg, Int.reduceLT, Int.reduceLE, Int.reduceEq, Int.reduceNe, Int.reduceBEq, Int.reduceBNe, Int.reduceToNat, Int.reduceGT, Int.reduceGE, ↓reduceIte, decide_true, decide_false, eq_self, Nat.mul_one, Nat.zero_mul, Nat.one_mul, Int.le_refl, Nat.le_refl, Int.cast_ofNat_Int, Try.f40]
noncomputable def xoTo : List TV → Option TV
  | [.int .i64 a, .int .i64 b] => some (.agg [.int .i64 a, .int .i64 b])
  | _ => none
theorem xoTo_ok : ∀ xs r, xoTo xs = some r → PCalls Try.prog 40 xs r := by
  intro xs r h
  unfold xoTo at h
  split at h
  · cases h; exact oTo_c _ _
  · cases h
attribute [go_sem] xoTo
noncomputable def spO2 : Pm.Spec := spO1.one 40 xoTo
@[go_sem] theorem spO2_p (f : FuncId) (xs : List TV) : spO2.p f xs = Pm.Spec.p (spO1.one 40 xoTo) f xs := rfl
@[go_sem] theorem spO2_h (f : FuncId) (ps : List PV) (hl : List PO) : spO2.h f ps hl = Pm.Spec.h (spO1.one 40 xoTo) f ps hl := rfl
@[go_sem] theorem spO2_fz (f : FuncId) : spO2.fz f = Pm.Spec.fz (spO1.one 40 xoTo) f := rfl
@[go_sem] theorem spO2_fr (f : FuncId) : spO2.fr f = Pm.Spec.fr (spO1.one 40 xoTo) f := rfl
@[go_sem] theorem spO2_mu (t : TypeId) : spO2.mu t = Pm.Spec.mu (spO1.one 40 xoTo) t := rfl
@[go_sem] theorem spO2_nf (t : TypeId) : spO2.nf t = Pm.Spec.nf (spO1.one 40 xoTo) t := rfl
theorem spO2_ok : SpecOk Try.prog spO2 := Spec.one_ok xoTo_ok spO1_ok
def ownT : TV := .agg [.int .i64 36000, .sl [.int .i64 0, .int .i64 0, .int .i64 (-10), .int .i64 10, .int .i64 20, .int .i64 40] 3 true, .int .i64 (-30), .int .i64 (-20), .int .i64 5, .sl [.int .i64 0, .int .i64 6, .int .i64 (-4), .int .i64 4] 2 true]
theorem oOwn_c : PCalls Try.prog 50 [] ownT := by
  refine pcalls_by Try.mixes spO2_ok (fn := Try.f50) Try.func50 rfl (by kernel_rfl) (by show 0 ≤ _; decide) ?_
  simp (decide := true) (maxSteps := 4000000) only [go_sem, Nat.reduceAdd, Nat.reduceSub, Nat.reduceMul, Nat.reduceDiv, Nat.reduceMod, Nat.reduceLT, Nat.reduceLeDiff, Nat.reduceEqDiff, Nat.reduceBEq, Nat.reduceBNe, Nat.reduceGT, Int.reduceAdd, Int.reduceSub, Int.reduceMul, Int.reduceNeg, Int.reduceLT, Int.reduceLE, Int.reduceEq, Int.reduceNe, Int.reduceBEq, Int.reduceBNe, Int.reduceToNat, Int.reduceGT, Int.reduceGE, ↓reduceIte, decide_true, decide_false, eq_self, Nat.mul_one, Nat.zero_mul, Nat.one_mul, Int.le_refl, Nat.le_refl, Int.cast_ofNat_Int, Try.f50, ownT]
noncomputable def xoOwn : List TV → Option TV
  | [] => some (ownT)
  | _ => none
theorem xoOwn_ok : ∀ xs r, xoOwn xs = some r → PCalls Try.prog 50 xs r := by
  intro xs r h
  unfold xoOwn at h
  split at h
  · cases h; exact oOwn_c
  · cases h
attribute [go_sem] xoOwn
def sunsT : TV := .sl [.int .i64 1915, .int .i64 1865, .int .i64 1912, .int .i64 1862] 2 true
theorem oSuns_c : PCalls Try.prog 51 [] sunsT := by
  refine pcalls_by Try.mixes spO2_ok (fn := Try.f51) Try.func51 rfl (by kernel_rfl) (by show 0 ≤ _; decide) ?_
  simp (decide := true) (maxSteps := 4000000) only [go_sem, Nat.reduceAdd, Nat.reduceSub, Nat.reduceMul, Nat.reduceDiv, Nat.reduceMod, Nat.reduceLT, Nat.reduceLeDiff, Nat.reduceEqDiff, Nat.reduceBEq, Nat.reduceBNe, Nat.reduceGT, Int.reduceAdd, Int.reduceSub, Int.reduceMul, Int.reduceNeg, Int.reduceLT, Int.reduceLE, Int.reduceEq, Int.reduceNe, Int.reduceBEq, Int.reduceBNe, Int.reduceToNat, Int.reduceGT, Int.reduceGE, ↓reduceIte, decide_true, decide_false, eq_self, Nat.mul_one, Nat.zero_mul, Nat.one_mul, Int.le_refl, Nat.le_refl, Int.cast_ofNat_Int, Try.f51, sunsT]
noncomputable def xoSuns : List TV → Option TV
  | [] => some (sunsT)
  | _ => none
theorem xoSuns_ok : ∀ xs r, xoSuns xs = some r → PCalls Try.prog 51 xs r := by
  intro xs r h
  unfold xoSuns at h
  split at h
  · cases h; exact oSuns_c
  · cases h
attribute [go_sem] xoSuns
theorem oTrial_c (a b : Int) : PCalls Try.prog 52 [.int .i64 a, .int .i64 b] (.agg [.int .i64 a, .int .i64 0, .int .i64 b]) := by
  refine pcalls_by Try.mixes spO2_ok (fn := Try.f52) Try.func52 rfl (by kernel_rfl) (by show 2 ≤ _; decide) ?_
  simp (decide := true) (maxSteps := 4000000) only [go_sem, Nat.reduceAdd, Nat.reduceSub, Nat.reduceMul, Nat.reduceDiv, Nat.reduceMod, Nat.reduceLT, Nat.reduceLeDiff, Nat.reduceEqDiff, Nat.reduceBEq, Nat.reduceBNe, Nat.reduceGT, Int.reduceAdd, Int.reduceSub, Int.reduceMul, Int.reduceNeg, Int.reduceLT, Int.reduceLE, Int.reduceEq, Int.reduceNe, Int.reduceBEq, Int.reduceBNe, Int.reduceToNat, Int.reduceGT, Int.reduceGE, ↓reduceIte, decide_true, decide_false, eq_self, Nat.mul_one, Nat.zero_mul, Nat.one_mul, Int.le_refl, Nat.le_refl, Int.cast_ofNat_Int, Try.f52]
noncomputable def xoTrial : List TV → Option TV
  | [.int .i64 a, .int .i64 b] => some (.agg [.int .i64 a, .int .i64 0, .int .i64 b])
  | _ => none
theorem xoTrial_ok : ∀ xs r, xoTrial xs = some r → PCalls Try.prog 52 xs r := by
  intro xs r h
  unfold xoTrial at h
  split at h
  · cases h; exact oTrial_c _ _
  · cases h
attribute [go_sem] xoTrial
noncomputable def spO3 : Pm.Spec := spO2.one 52 xoTrial
@[go_sem] theorem spO3_p (f : FuncId) (xs : List TV) : spO3.p f xs = Pm.Spec.p (spO2.one 52 xoTrial) f xs := rfl
@[go_sem] theorem spO3_h (f : FuncId) (ps : List PV) (hl : List PO) : spO3.h f ps hl = Pm.Spec.h (spO2.one 52 xoTrial) f ps hl := rfl
@[go_sem] theorem spO3_fz (f : FuncId) : spO3.fz f = Pm.Spec.fz (spO2.one 52 xoTrial) f := rfl
@[go_sem] theorem spO3_fr (f : FuncId) : spO3.fr f = Pm.Spec.fr (spO2.one 52 xoTrial) f := rfl
@[go_sem] theorem spO3_mu (t : TypeId) : spO3.mu t = Pm.Spec.mu (spO2.one 52 xoTrial) t := rfl
@[go_sem] theorem spO3_nf (t : TypeId) : spO3.nf t = Pm.Spec.nf (spO2.one 52 xoTrial) t := rfl
theorem spO3_ok : SpecOk Try.prog spO3 := Spec.one_ok xoTrial_ok spO2_ok
def trialsT : TV := .sl [.int .i64 36000, .int .i64 0, .int .i64 35985, .int .i64 72000, .int .i64 0, .int .i64 72010, .int .i64 36000, .int .i64 0, .int .i64 35960] 3 true
theorem oTrials_c : PCalls Try.prog 53 [] trialsT := by
  refine pcalls_by Try.mixes spO3_ok (fn := Try.f53) Try.func53 rfl (by kernel_rfl) (by show 0 ≤ _; decide) ?_
  simp (decide := true) (maxSteps := 4000000) only [go_sem, Nat.reduceAdd, Nat.reduceSub, Nat.reduceMul, Nat.reduceDiv, Nat.reduceMod, Nat.reduceLT, Nat.reduceLeDiff, Nat.reduceEqDiff, Nat.reduceBEq, Nat.reduceBNe, Nat.reduceGT, Int.reduceAdd, Int.reduceSub, Int.reduceMul, Int.reduceNeg, Int.reduceLT, Int.reduceLE, Int.reduceEq, Int.reduceNe, Int.reduceBEq, Int.reduceBNe, Int.reduceToNat, Int.reduceGT, Int.reduceGE, ↓reduceIte, decide_true, decide_false, eq_self, Nat.mul_one, Nat.zero_mul, Nat.one_mul, Int.le_refl, Nat.le_refl, Int.cast_ofNat_Int, Try.f53, trialsT]
noncomputable def xoTrials : List TV → Option TV
  | [] => some (trialsT)
  | _ => none
theorem xoTrials_ok : ∀ xs r, xoTrials xs = some r → PCalls Try.prog 53 xs r := by
  intro xs r h
  unfold xoTrials at h
  split at h
  · cases h; exact oTrials_c
  · cases h
attribute [go_sem] xoTrials
def stockT : TV := .sl [.int .i64 0, .int .i64 50, rw2 0 4 0 10, .int .i64 0, .int .i64 30, rw2 (-3) 3 (-12) 12, .int .i64 1, .int .i64 20, rw2 0 0 2 6, .int .i64 2, .int .i64 10, rw2 (-2) 2 (-2) 2, .int .i64 2, .int .i64 25, rw2 0 1 0 1] 5 true
theorem oStock_c : PCalls Try.prog 54 [] stockT := by
  refine pcalls_by Try.mixes spO3_ok (fn := Try.f54) Try.func54 rfl (by kernel_rfl) (by show 0 ≤ _; decide) ?_
  simp (decide := true) (maxSteps := 4000000) only [go_sem, Nat.reduceAdd, Nat.reduceSub, Nat.reduceMul, Nat.reduceDiv, Nat.reduceMod, Nat.reduceLT, Nat.reduceLeDiff, Nat.reduceEqDiff, Nat.reduceBEq, Nat.reduceBNe, Nat.reduceGT, Int.reduceAdd, Int.reduceSub, Int.reduceMul, Int.reduceNeg, Int.reduceLT, Int.reduceLE, Int.reduceEq, Int.reduceNe, Int.reduceBEq, Int.reduceBNe, Int.reduceToNat, Int.reduceGT, Int.reduceGE, ↓reduceIte, decide_true, decide_false, eq_self, Nat.mul_one, Nat.zero_mul, Nat.one_mul, Int.le_refl, Nat.le_refl, Int.cast_ofNat_Int, Try.f54, stockT, rw2]
noncomputable def xoStock : List TV → Option TV
  | [] => some (stockT)
  | _ => none
theorem xoStock_ok : ∀ xs r, xoStock xs = some r → PCalls Try.prog 54 xs r := by
  intro xs r h
  unfold xoStock at h
  split at h
  · cases h; exact oStock_c
  · cases h
attribute [go_sem] xoStock
noncomputable def spO4 : Pm.Spec := (((spO3.one 50 xoOwn).one 51 xoSuns).one 53 xoTrials).one 54 xoStock
@[go_sem] theorem spO4_p (f : FuncId) (xs : List TV) : spO4.p f xs = Pm.Spec.p ((((spO3.one 50 xoOwn).one 51 xoSuns).one 53 xoTrials).one 54 xoStock) f xs := rfl
@[go_sem] theorem spO4_h (f : FuncId) (ps : List PV) (hl : List PO) : spO4.h f ps hl = Pm.Spec.h ((((spO3.one 50 xoOwn).one 51 xoSuns).one 53 xoTrials).one 54 xoStock) f ps hl := rfl
@[go_sem] theorem spO4_fz (f : FuncId) : spO4.fz f = Pm.Spec.fz ((((spO3.one 50 xoOwn).one 51 xoSuns).one 53 xoTrials).one 54 xoStock) f := rfl
@[go_sem] theorem spO4_fr (f : FuncId) : spO4.fr f = Pm.Spec.fr ((((spO3.one 50 xoOwn).one 51 xoSuns).one 53 xoTrials).one 54 xoStock) f := rfl
@[go_sem] theorem spO4_mu (t : TypeId) : spO4.mu t = Pm.Spec.mu ((((spO3.one 50 xoOwn).one 51 xoSuns).one 53 xoTrials).one 54 xoStock) t := rfl
@[go_sem] theorem spO4_nf (t : TypeId) : spO4.nf t = Pm.Spec.nf ((((spO3.one 50 xoOwn).one 51 xoSuns).one 53 xoTrials).one 54 xoStock) t := rfl
theorem spO4_ok : SpecOk Try.prog spO4 := Spec.one_ok xoStock_ok (Spec.one_ok xoTrials_ok (Spec.one_ok xoSuns_ok (Spec.one_ok xoOwn_ok spO3_ok)))
theorem oWorks_c : PCalls Try.prog 21 [] (.bool true) := by
  have e1 : unS [.int .i64 0, .int .i64 0, .int .i64 (-10), .int .i64 10, .int .i64 20, .int .i64 40] = some [⟨0, 0⟩, ⟨-10, 10⟩, ⟨20, 40⟩] := unS_eq [⟨0, 0⟩, ⟨-10, 10⟩, ⟨20, 40⟩]
  have e2 : unS [.int .i64 0, .int .i64 6, .int .i64 (-4), .int .i64 4] = some [⟨0, 6⟩, ⟨-4, 4⟩] := unS_eq [⟨0, 6⟩, ⟨-4, 4⟩]
  have e3 : unSun [.int .i64 1915, .int .i64 1865, .int .i64 1912, .int .i64 1862] = some [⟨1915, 1865⟩, ⟨1912, 1862⟩] := unSun_eq [⟨1915, 1865⟩, ⟨1912, 1862⟩]
  have e4 : unTr [.int .i64 36000, .int .i64 0, .int .i64 35985, .int .i64 72000, .int .i64 0, .int .i64 72010] = some (trialsX.take 2) := unTr_eq (trialsX.take 2)
  have e5 : unTr [.int .i64 36000, .int .i64 0, .int .i64 35985, .int .i64 72000, .int .i64 0, .int .i64 72010, .int .i64 36000, .int .i64 0, .int .i64 35960] = some trialsX := unTr_eq trialsX
  have e6 : unP [.int .i64 0, .int .i64 50, rw2 0 4 0 10, .int .i64 0, .int .i64 30, rw2 (-3) 3 (-12) 12, .int .i64 1, .int .i64 20, rw2 0 0 2 6, .int .i64 2, .int .i64 10, rw2 (-2) 2 (-2) 2, .int .i64 2, .int .i64 25, rw2 0 1 0 1] = some stockX := unP_eq stockX
  have eo : Sx.mk 36000 [⟨0, 0⟩, ⟨-10, 10⟩, ⟨20, 40⟩] ⟨-30, -20⟩ 5 [⟨0, 6⟩, ⟨-4, 4⟩] = ownX := rfl
  have es : [(⟨1915, 1865⟩ : Sun), ⟨1912, 1862⟩] = sunsX := rfl
  have l1 : (trialsX.take 2).length = 2 := rfl
  have l2 : trialsX.length = 3 := rfl
  have l3 : stockX.length = 5 := rfl
  have e7 : unS [.int .i64 0, .int .i64 0, .int .i64 0, .int .i64 10, .int .i64 25, .int .i64 40] = some [⟨0, 0⟩, ⟨0, 10⟩, ⟨25, 40⟩] := unS_eq [⟨0, 0⟩, ⟨0, 10⟩, ⟨25, 40⟩]
  have r1 : rowF1 [⟨0, 0⟩, ⟨0, 10⟩, ⟨25, 40⟩] = .sl [.int .i64 0, .int .i64 0, .int .i64 0, .int .i64 10, .int .i64 25, .int .i64 40] 3 true := rfl
  have r2 : rowI (nI [0, 2]) = .sl [.int .i64 0, .int .i64 2] 2 false := rfl
  have e8 : unI [.int .i64 0, .int .i64 2] = some [0, 2] := unI_eq [0, 2]
  have e9 : unI [.int .i64 1, .int .i64 2, .int .i64 3] = some [1, 2, 3] := unI_eq [1, 2, 3]
  refine pcalls_by Try.mixes spO4_ok (fn := Try.f21) Try.func21 rfl (by kernel_rfl) (by show 0 ≤ _; decide) ?_
  simp (decide := true) (maxSteps := 4000000) only [go_sem, Nat.reduceAdd, Nat.reduceSub, Nat.reduceMul, Nat.reduceDiv, Nat.reduceMod, Nat.reduceLT, Nat.reduceLeDiff, Nat.reduceEqDiff, Nat.reduceBEq, Nat.reduceBNe, Nat.reduceGT, Int.reduceAdd, Int.reduceSub, Int.reduceMul, Int.reduceNeg, Int.reduceLT, Int.reduceLE, Int.reduceEq, Int.reduceNe, Int.reduceBEq, Int.reduceBNe, Int.reduceToNat, Int.reduceGT, Int.reduceGE, ↓reduceIte, decide_true, decide_false, eq_self, Nat.mul_one, Nat.zero_mul, Nat.one_mul, Int.le_refl, Nat.le_refl, Int.cast_ofNat_Int, Try.f21, ownT, sunsT, trialsT, stockT, e1, e2, e3, e4, e5, e6, e7, e8, e9, eo, es, l1, l2, l3, r1, r2, exRead, exIndex, exTrial, exFalse, exClass, exStock, exAsm, List.length_cons, List.length_nil, Span.t, Span.cs]
  done
noncomputable def xoWorks : List TV → Option TV
  | [] => some (.bool true)
  | _ => none
theorem xoWorks_ok : ∀ xs r, xoWorks xs = some r → PCalls Try.prog 21 xs r := by
  intro xs r h
  unfold xoWorks at h
  split at h
  · cases h; exact oWorks_c
  · cases h
attribute [go_sem] xoWorks
noncomputable def spO5 : Pm.Spec := spO2.one 21 xoWorks
@[go_sem] theorem spO5_p (f : FuncId) (xs : List TV) : spO5.p f xs = Pm.Spec.p (spO2.one 21 xoWorks) f xs := rfl
@[go_sem] theorem spO5_h (f : FuncId) (ps : List PV) (hl : List PO) : spO5.h f ps hl = Pm.Spec.h (spO2.one 21 xoWorks) f ps hl := rfl
@[go_sem] theorem spO5_fz (f : FuncId) : spO5.fz f = Pm.Spec.fz (spO2.one 21 xoWorks) f := rfl
@[go_sem] theorem spO5_fr (f : FuncId) : spO5.fr f = Pm.Spec.fr (spO2.one 21 xoWorks) f := rfl
@[go_sem] theorem spO5_mu (t : TypeId) : spO5.mu t = Pm.Spec.mu (spO2.one 21 xoWorks) t := rfl
@[go_sem] theorem spO5_nf (t : TypeId) : spO5.nf t = Pm.Spec.nf (spO2.one 21 xoWorks) t := rfl
theorem spO5_ok : SpecOk Try.prog spO5 := Spec.one_ok xoWorks_ok spO2_ok
end Go.Proofs.Ytjmkccckohcfkaa

/- Part Oca. -/
namespace Go.Os
open Go Go.Pm Go.Oc Go.Oh
/-- A span without breadth, as a number chooses it. -/
def tCh (bits : List Int) (s : Span) (n : Int) : Span := ⟨chosen s.lo s.hi (pickI bits n), chosen s.lo s.hi (pickI bits n)⟩
def tTab (x : Sx) (bits : List Int) (k : Nat) : List Span := (List.range k).map fun (i : Nat) => tCh bits (atS x.tab i) (i : Int)
def tSh (x : Sx) (bits : List Int) (k : Nat) : List Span := (List.range k).map fun (i : Nat) => tCh bits (atS x.shade i) (2 * (i : Int) + 1)
/-- The sextant that has no spans any more. -/
def truthX (x : Sx) (bits : List Int) : Sx := ⟨x.step, tTab x bits x.tab.length, tCh bits x.idx 7, x.wrong, tSh x bits x.shade.length⟩
theorem tTab_succ (x : Sx) (bits : List Int) (k : Nat) : tTab x bits (k + 1) = tTab x bits k ++ [tCh bits (atS x.tab k) k] := by unfold tTab; rw [List.range_succ, List.map_append]; rfl
theorem tSh_succ (x : Sx) (bits : List Int) (k : Nat) : tSh x bits (k + 1) = tSh x bits k ++ [tCh bits (atS x.shade k) (2 * (k : Int) + 1)] := by unfold tSh; rw [List.range_succ, List.map_append]; rfl
theorem tTab_len (x : Sx) (bits : List Int) (k : Nat) : (tTab x bits k).length = k := by simp [tTab]
theorem tSh_len (x : Sx) (bits : List Int) (k : Nat) : (tSh x bits k).length = k := by simp [tSh]
theorem tTab_at {x : Sx} {bits : List Int} {n k : Nat} (h : k < n) : atS (tTab x bits n) k = tCh bits (atS x.tab k) k := by
  apply atS_eq; unfold tTab; rw [List.getElem?_map, List.getElem?_range h]; rfl
theorem tSh_at {x : Sx} {bits : List Int} {n k : Nat} (h : k < n) : atS (tSh x bits n) k = tCh bits (atS x.shade k) (2 * (k : Int) + 1) := by
  apply atS_eq; unfold tSh; rw [List.getElem?_map, List.getElem?_range h]; rfl
theorem tCh_in (bits : List Int) {s : Span} (n : Int) (h : s.lo ≤ s.hi) : (s.lo ≤ (tCh bits s n).lo ∧ (tCh bits s n).lo ≤ s.hi) ∧ (tCh bits s n).hi = (tCh bits s n).lo := by
  have := chosen_mem (pickI bits n) h
  exact ⟨this, rfl⟩
theorem mem_tab {x : Sx} {bits : List Int} {k : Nat} {s : Span} (h : s ∈ tTab x bits k) : ∃ i, i < k ∧ s = tCh bits (atS x.tab i) i := by
  unfold tTab at h
  obtain ⟨i, hi, rfl⟩ := List.mem_map.1 h
  exact ⟨i, List.mem_range.1 hi, rfl⟩
theorem mem_sh {x : Sx} {bits : List Int} {k : Nat} {s : Span} (h : s ∈ tSh x bits k) : ∃ i, i < k ∧ s = tCh bits (atS x.shade i) (2 * (i : Int) + 1) := by
  unfold tSh at h
  obtain ⟨i, hi, rfl⟩ := List.mem_map.1 h
  exact ⟨i, List.mem_range.1 hi, rfl⟩
theorem truth_good {x : Sx} (h : GoodS x) (bits : List Int) : GoodS (truthX x bits) := by
  refine ⟨h.st, ?_, ?_, ?_, ?_, h.wr, ?_, ?_⟩
  · show 2 ≤ (tTab x bits x.tab.length).length ∧ (tTab x bits x.tab.length).length ≤ 12; rw [tTab_len]; exact h.len
  · intro s hs
    obtain ⟨i, hi, rfl⟩ := mem_tab hs
    have ht := h.tab _ (atS_mem hi)
    have := tCh_in bits (i : Int) ht.2.1
    omega
  · show x.step * ((tTab x bits x.tab.length).length - 1) ≤ _; rw [tTab_len]; exact h.long
  · have ht := h.idx
    have := tCh_in bits 7 ht.2.1
    show _ ≤ (tCh bits x.idx 7).lo ∧ (tCh bits x.idx 7).lo ≤ (tCh bits x.idx 7).hi ∧ (tCh bits x.idx 7).hi ≤ _
    omega
  · show (tSh x bits x.shade.length).length ≤ 6; rw [tSh_len]; exact h.sh
  · intro s hs
    obtain ⟨i, hi, rfl⟩ := mem_sh hs
    have ht := h.shade _ (atS_mem hi)
    have := tCh_in bits (2 * (i : Int) + 1) ht.2.1
    omega
/-- A row that was built, or none. -/
def rowO (l : List Span) : TV := if l.length = 0 then .nilSl else .sl (l.flatMap Span.cs) l.length false
theorem rowO_is (l : List Span) : IsRow Span.cs (rowO l) l := rowSp_row l
def shL (x : Sx) (set : Nat) (k : Nat) : Int := (List.range k).foldl (fun n i => if set.testBit i then n + (atS x.shade i).lo else n) 0
theorem shL_succ (x : Sx) (set k : Nat) : shL x set (k + 1) = if set.testBit k then shL x set k + (atS x.shade k).lo else shL x set k := by unfold shL; rw [List.range_succ, List.foldl_append]; rfl
/-- The true angle, by a sextant of which only the lower ends are looked at. -/
def angleV (x : Sx) (a : Int) (set : Nat) (w : Int) : Int := a + x.idx.lo + w + (corr x.step x.tab a).lo + shL x set x.shade.length
theorem shL_b {x : Sx} (h : GoodS x) (set : Nat) : ∀ k, k ≤ x.shade.length → -(120 * (k : Int)) ≤ shL x set k ∧ shL x set k ≤ 120 * (k : Int)
  | 0, _ => by simp [shL]
  | k + 1, hk => by
    have ih := shL_b h set k (by omega)
    have hs := h.shade _ (atS_mem (show k < x.shade.length by omega))
    rw [shL_succ]
    split <;> omega
end Go.Os
namespace Go.Proofs.Ytjmkccckohcfkaa
open Go.RowKit Go.Pm Go.Oc Go.Oh Go.Os
set_option maxRecDepth 100000
set_option linter.unusedVariables false
set_option maxHeartbeats 4000000

theorem oSound_c (x : Sx) {sT sS : TV} (hT : IsRow Span.cs sT x.tab) (hS : IsRow Span.cs sS x.shade) (lT : x.tab.length ≤ 9000000000000) (lS : x.shade.length ≤ 9000000000000) : PCalls Try.prog 32 [x.t sT sS] (.bool (sxOk x)) := by
  have rT := rowS_is hT
  have rS := rowS_is hS
  unfold rowL at rT rS
  simp only [unS_nil] at rT rS
  have e0 : Sx.mk x.step x.tab ⟨x.idx.lo, x.idx.hi⟩ x.wrong x.shade = x := rfl
  have ei : Span.mk x.idx.lo x.idx.hi = x.idx := rfl
  refine pcalls_by Try.mixes spO5_ok (fn := Try.f32) Try.func32 rfl (by kernel_rfl) (by show 1 ≤ _; decide) ?_
  cases hv : sxOk x with
  | false =>
    have b : ((50 : Int) == 0) = false := rfl
    have eT : ∀ l : List Span, x.tab = l → Sx.mk x.step l ⟨x.idx.lo, x.idx.hi⟩ x.wrong x.shade = x := fun l hl => by rw [← hl]
    have eS : ∀ l : List Span, x.shade = l → Sx.mk x.step x.tab ⟨x.idx.lo, x.idx.hi⟩ x.wrong l = x := fun l hl => by rw [← hl]
    have eTS : ∀ l m : List Span, x.tab = l → x.shade = m → Sx.mk x.step l ⟨x.idx.lo, x.idx.hi⟩ x.wrong m = x := fun l m hl hm => by rw [← hl, ← hm]
    have z : ([] : List Span).length ≤ 9000000000000 := by simp
    rcases hT with ⟨rfl, hT⟩ | ⟨f, rfl⟩ <;> rcases hS with ⟨rfl, hS⟩ | ⟨g, rfl⟩
    · simp (decide := true) (maxSteps := 4000000) only [go_sem, Nat.reduceAdd, Nat.reduceSub, Nat.reduceMul, Nat.reduceDiv, Nat.reduceMod, Nat.reduceLT, Nat.reduceLeDiff, Nat.reduceEqDiff, Nat.reduceBEq, Nat.reduceBNe, Nat.reduceGT, Int.reduceAdd, Int.reduceSub, Int.reduceMul, Int.reduceNeg, Int.reduceLT, Int.reduceLE, Int.reduceEq, Int.reduceNe, Int.reduceBEq, Int.reduceBNe, Int.reduceToNat, Int.reduceGT, Int.reduceGE, ↓reduceIte, decide_true, decide_false, eq_self, Nat.mul_one, Nat.zero_mul, Nat.one_mul, Int.le_refl, Nat.le_refl, Int.cast_ofNat_Int, Try.f32, Sx.t, Sx.cs, z, eTS [] [] hT hS, hv, b, unS_eq, Bool.false_and]
    · simp (decide := true) (maxSteps := 4000000) only [go_sem, Nat.reduceAdd, Nat.reduceSub, Nat.reduceMul, Nat.reduceDiv, Nat.reduceMod, Nat.reduceLT, Nat.reduceLeDiff, Nat.reduceEqDiff, Nat.reduceBEq, Nat.reduceBNe, Nat.reduceGT, Int.reduceAdd, Int.reduceSub, Int.reduceMul, Int.reduceNeg, Int.reduceLT, Int.reduceLE, Int.reduceEq, Int.reduceNe, Int.reduceBEq, Int.reduceBNe, Int.reduceToNat, Int.reduceGT, Int.reduceGE, ↓reduceIte, decide_true, decide_false, eq_self, Nat.mul_one, Nat.zero_mul, Nat.one_mul, Int.le_refl, Nat.le_refl, Int.cast_ofNat_Int, Try.f32, Sx.t, Sx.cs, z, lS, eT [] hT, hv, b, unS_eq, Bool.false_and]
    · simp (decide := true) (maxSteps := 4000000) only [go_sem, Nat.reduceAdd, Nat.reduceSub, Nat.reduceMul, Nat.reduceDiv, Nat.reduceMod, Nat.reduceLT, Nat.reduceLeDiff, Nat.reduceEqDiff, Nat.reduceBEq, Nat.reduceBNe, Nat.reduceGT, Int.reduceAdd, Int.reduceSub, Int.reduceMul, Int.reduceNeg, Int.reduceLT, Int.reduceLE, Int.reduceEq, Int.reduceNe, Int.reduceBEq, Int.reduceBNe, Int.reduceToNat, Int.reduceGT, Int.reduceGE, ↓reduceIte, decide_true, decide_false, eq_self, Nat.mul_one, Nat.zero_mul, Nat.one_mul, Int.le_refl, Nat.le_refl, Int.cast_ofNat_Int, Try.f32, Sx.t, Sx.cs, z, lT, eS [] hS, hv, b, unS_eq, Bool.false_and]
    · simp (decide := true) (maxSteps := 4000000) only [go_sem, Nat.reduceAdd, Nat.reduceSub, Nat.reduceMul, Nat.reduceDiv, Nat.reduceMod, Nat.reduceLT, Nat.reduceLeDiff, Nat.reduceEqDiff, Nat.reduceBEq, Nat.reduceBNe, Nat.reduceGT, Int.reduceAdd, Int.reduceSub, Int.reduceMul, Int.reduceNeg, Int.reduceLT, Int.reduceLE, Int.reduceEq, Int.reduceNe, Int.reduceBEq, Int.reduceBNe, Int.reduceToNat, Int.reduceGT, Int.reduceGE, ↓reduceIte, decide_true, decide_false, eq_self, Nat.mul_one, Nat.zero_mul, Nat.one_mul, Int.le_refl, Nat.le_refl, Int.cast_ofNat_Int, Try.f32, Sx.t, Sx.cs, lT, lS, e0, hv, b, unS_eq, Bool.false_and]
  | true =>
    have h := sxOk_iff.1 hv
    obtain ⟨f, rfl⟩ := good_T h hT
    have rT := unS_eq x.tab
    have b : ((0 : Int) == 0) = true := rfl
    have h1 : inB x.step 1 72000 = true := inB_iff.2 h.st
    have h2 : inB x.tab.length 2 12 = true := inB_iff.2 (by have := h.len; omega)
    have h3 : (x.shade.length : Int) ≤ 6 := by have := h.sh; omega
    have h4 : spannedB x.idx (-1800) 1800 = true := spannedB_iff.2 h.idx
    rcases hS with ⟨rfl, hS⟩ | ⟨g, rfl⟩
    · simp (decide := true) (maxSteps := 4000000) only [go_sem, Nat.reduceAdd, Nat.reduceSub, Nat.reduceMul, Nat.reduceDiv, Nat.reduceMod, Nat.reduceLT, Nat.reduceLeDiff, Nat.reduceEqDiff, Nat.reduceBEq, Nat.reduceBNe, Nat.reduceGT, Int.reduceAdd, Int.reduceSub, Int.reduceMul, Int.reduceNeg, Int.reduceLT, Int.reduceLE, Int.reduceEq, Int.reduceNe, Int.reduceBEq, Int.reduceBNe, Int.reduceToNat, Int.reduceGT, Int.reduceGE, ↓reduceIte, decide_true, decide_false, eq_self, Nat.mul_one, Nat.zero_mul, Nat.one_mul, Int.le_refl, Nat.le_refl, Int.cast_ofNat_Int, Try.f32, Sx.t, Sx.cs, rT, rS, lT, lS, e0, hv, b, h1, h2, h4, ei, Bool.true_and, Bool.and_true, Bool.and_self]
    · simp (decide := true) (maxSteps := 4000000) only [go_sem, Nat.reduceAdd, Nat.reduceSub, Nat.reduceMul, Nat.reduceDiv, Nat.reduceMod, Nat.reduceLT, Nat.reduceLeDiff, Nat.reduceEqDiff, Nat.reduceBEq, Nat.reduceBNe, Nat.reduceGT, Int.reduceAdd, Int.reduceSub, Int.reduceMul, Int.reduceNeg, Int.reduceLT, Int.reduceLE, Int.reduceEq, Int.reduceNe, Int.reduceBEq, Int.reduceBNe, Int.reduceToNat, Int.reduceGT, Int.reduceGE, ↓reduceIte, decide_true, decide_false, eq_self, Nat.mul_one, Nat.zero_mul, Nat.one_mul, Int.le_refl, Nat.le_refl, Int.cast_ofNat_Int, Try.f32, Sx.t, Sx.cs, rT, unS_eq, lT, lS, e0, hv, b, h1, h2, h3, h4, ei, Bool.true_and, Bool.and_true, Bool.and_self]
noncomputable def xoSound : List TV → Option TV
  | [.agg [.int .i64 a0, sT, .int .i64 a1, .int .i64 a2, .int .i64 a3, sS]] => match rowL unS sT, rowL unS sS with
    | some tab, some shade => if tab.length ≤ 9000000000000 ∧ shade.length ≤ 9000000000000 then some (.bool (sxOk (⟨a0, tab, ⟨a1, a2⟩, a3, shade⟩ : Sx))) else none
    | _, _ => none
  | _ => none
theorem xoSound_ok : ∀ xs r, xoSound xs = some r → PCalls Try.prog 32 xs r := by
  intro xs r h
  unfold xoSound at h
  split at h
  · split at h
    · rename_i tab shade hT hS
      have hT := rowL_some (un := unS) unS_nil (@unS_some) hT
      have hS := rowL_some (un := unS) unS_nil (@unS_some) hS
      split at h
      · rename_i hc; cases h; exact oSound_c ⟨_, tab, ⟨_, _⟩, _, shade⟩ hT hS hc.1 hc.2
      · cases h
    · cases h
  · cases h
attribute [go_sem] xoSound
theorem oOne_c {bits : List Int} {s : TV} (hb : IsRow ic s bits) (lb : bits.length ≤ 17592186044415) (d : Span) (n : Int) (h1 : -9223372036854775808 ≤ d.lo ∧ d.lo ≤ 9223372036854775807) (h2 : -9223372036854775808 ≤ d.hi ∧ d.hi ≤ 9223372036854775807) : PCalls Try.prog 89 [d.t, .int .i64 n, .cptr [s]] (tCh bits d n).t := by
  have rI := rowI_is hb
  have m : bits.length ≤ 9223372036854775806 := by omega
  refine pcalls_by Try.mixes spO5_ok (fn := Try.f89) Try.func89 rfl (by kernel_rfl) (by show 3 ≤ _; decide) ?_
  unfold rowL at rI
  simp only [unI_nil] at rI
  simp (decide := true) (maxSteps := 4000000) only [go_sem, Nat.reduceAdd, Nat.reduceSub, Nat.reduceMul, Nat.reduceDiv, Nat.reduceMod, Nat.reduceLT, Nat.reduceLeDiff, Nat.reduceEqDiff, Nat.reduceBEq, Nat.reduceBNe, Nat.reduceGT, Int.reduceAdd, Int.reduceSub, Int.reduceMul, Int.reduceNeg, Int.reduceLT, Int.reduceLE, Int.reduceEq, Int.reduceNe, Int.reduceBEq, Int.reduceBNe, Int.reduceToNat, Int.reduceGT, Int.reduceGE, ↓reduceIte, decide_true, decide_false, eq_self, Nat.mul_one, Nat.zero_mul, Nat.one_mul, Int.le_refl, Nat.le_refl, Int.cast_ofNat_Int, Try.f89, Span.t, Span.cs, rI, m, h1, h2, tCh]
noncomputable def xoOne : List TV → Option TV
  | [.agg [.int .i64 a, .int .i64 b], .int .i64 n, .cptr [s]] => match rowL unI s with
    | some l => if l.length ≤ 17592186044415 ∧ (-9223372036854775808 ≤ a ∧ a ≤ 9223372036854775807) ∧ -9223372036854775808 ≤ b ∧ b ≤ 9223372036854775807 then some ((tCh l ⟨a, b⟩ n).t) else none
    | none => none
  | _ => none
theorem xoOne_ok : ∀ xs r, xoOne xs = some r → PCalls Try.prog 89 xs r := by
  intro xs r h
  unfold xoOne at h
  split at h
  · split at h
    · rename_i l hl
      have hl := rowL_some (un := unI) (by first | rfl | exact unI_nil) (@unI_some) hl
      split at h
      · rename_i hc; cases h; exact oOne_c hl hc.1 ⟨_, _⟩ _ hc.2.1 hc.2.2
      · cases h
    · cases h
  · cases h
attribute [go_sem] xoOne
noncomputable def spOc1 : Pm.Spec := { (noSpec.one 89 xoOne) with fz := fun _ => true }
@[go_sem] theorem spOc1_p (f : FuncId) (xs : List TV) : spOc1.p f xs = Pm.Spec.p ({ (noSpec.one 89 xoOne) with fz := fun _ => true }) f xs := rfl
@[go_sem] theorem spOc1_h (f : FuncId) (ps : List PV) (hl : List PO) : spOc1.h f ps hl = Pm.Spec.h ({ (noSpec.one 89 xoOne) with fz := fun _ => true }) f ps hl := rfl
@[go_sem] theorem spOc1_fz (f : FuncId) : spOc1.fz f = Pm.Spec.fz ({ (noSpec.one 89 xoOne) with fz := fun _ => true }) f := rfl
@[go_sem] theorem spOc1_fr (f : FuncId) : spOc1.fr f = Pm.Spec.fr ({ (noSpec.one 89 xoOne) with fz := fun _ => true }) f := rfl
@[go_sem] theorem spOc1_mu (t : TypeId) : spOc1.mu t = Pm.Spec.mu ({ (noSpec.one 89 xoOne) with fz := fun _ => true }) t := rfl
@[go_sem] theorem spOc1_nf (t : TypeId) : spOc1.nf t = Pm.Spec.nf ({ (noSpec.one 89 xoOne) with fz := fun _ => true }) t := rfl
theorem spOc1_ok : SpecOk Try.prog spOc1 := ⟨(Spec.one_ok xoOne_ok noSpec_ok).1, (Spec.one_ok xoOne_ok noSpec_ok).2⟩
theorem oTruth_c (x : Sx) {sT sS : TV} (hT : IsRow Span.cs sT x.tab) (hS : IsRow Span.cs sS x.shade) (hv : sxOk x = true) {bits : List Int} {s : TV} (hb : IsRow ic s bits) (lb : bits.length ≤ 17592186044415) : PCalls Try.prog 34 [x.t sT sS, s] ((truthX x bits).t (rowO (tTab x bits x.tab.length)) (rowO (tSh x bits x.shade.length))) := by
  have h := sxOk_iff.1 hv
  obtain ⟨f, rfl⟩ := good_T h hT
  have hlen := h.len
  have hn0 : ¬ x.tab.length = 0 := by omega
  have rI := rowI_is hb
  unfold rowL at rI
  simp only [unI_nil] at rI
  have hix := h.idx
  have i1 : -9223372036854775808 ≤ x.idx.lo ∧ x.idx.lo ≤ 9223372036854775807 := by omega
  have i2 : -9223372036854775808 ≤ x.idx.hi ∧ x.idx.hi ≤ 9223372036854775807 := by omega
  have ei : Span.mk x.idx.lo x.idx.hi = x.idx := rfl
  refine pcalls_by Try.mixes spOc1_ok (fn := Try.f34) Try.func34 rfl (by kernel_rfl) (by show 2 ≤ _; decide) ?_
  rcases hb with ⟨rfl, hbn⟩ | ⟨g, rfl⟩
  · have hTC : ∀ d n, tCh [] d n = tCh bits d n := by rw [hbn]; exact fun _ _ => rfl
    simp (decide := true) (maxSteps := 4000000) only [go_sem, Nat.reduceAdd, Nat.reduceSub, Nat.reduceMul, Nat.reduceDiv, Nat.reduceMod, Nat.reduceLT, Nat.reduceLeDiff, Nat.reduceEqDiff, Nat.reduceBEq, Nat.reduceBNe, Nat.reduceGT, Int.reduceAdd, Int.reduceSub, Int.reduceMul, Int.reduceNeg, Int.reduceLT, Int.reduceLE, Int.reduceEq, Int.reduceNe, Int.reduceBEq, Int.reduceBNe, Int.reduceToNat, Int.reduceGT, Int.reduceGE, ↓reduceIte, decide_true, decide_false, eq_self, Nat.mul_one, Nat.zero_mul, Nat.one_mul, Int.le_refl, Nat.le_refl, Int.cast_ofNat_Int, Try.f34, Sx.t, Sx.cs]
    refine pwpC_loopU (A := { k : Nat // k ≤ x.tab.length }) [2, 4, 5, 6] (fun k => [(7, .t (.int .i64 k.1))]) (fun k => [(3, .box [.t (.int .i64 x.step), .own ((tTab x bits k.1).flatMap Span.cs) k.1 4, .t (.int .i64 0), .t (.int .i64 0), .t (.int .i64 x.wrong), .t .nilSl]), (4, .tok k.1 24)]) (fun k => x.tab.length - k.1) ⟨0, by omega⟩ (by decide) (fun _ => by rfl) ?_ fun Q1 hQ1 ⟨k, hk⟩ I1 hI1 => ?_
    · simp (decide := true) (maxSteps := 4000000) only [go_sem, Nat.reduceAdd, Nat.reduceSub, Nat.reduceMul, Nat.reduceDiv, Nat.reduceMod, Nat.reduceLT, Nat.reduceLeDiff, Nat.reduceEqDiff, Nat.reduceBEq, Nat.reduceBNe, Nat.reduceGT, Int.reduceAdd, Int.reduceSub, Int.reduceMul, Int.reduceNeg, Int.reduceLT, Int.reduceLE, Int.reduceEq, Int.reduceNe, Int.reduceBEq, Int.reduceBNe, Int.reduceToNat, Int.reduceGT, Int.reduceGE, ↓reduceIte, decide_true, decide_false, eq_self, Nat.mul_one, Nat.zero_mul, Nat.one_mul, Int.le_refl, Nat.le_refl, Int.cast_ofNat_Int, tTab, List.range_zero, List.map_nil]
    · by_cases hlt : (k : Int) < x.tab.length
      · have hkl : k < x.tab.length := by omega
        obtain ⟨t, ht⟩ := get_lt hlt
        have hd := flat_at Span.cs (n := 2) (fun _ => rfl) ht
        have het := atS_eq ht
        have htb := h.tab t (List.mem_of_getElem? ht)
        have hc1 : IntKind.i64.wrap (k + 1) = ((k + 1 : Nat) : Int) := by rw [wrap_in (by omega) (by omega)]; omega
        have b1 : -9223372036854775808 ≤ t.lo ∧ t.lo ≤ 9223372036854775807 := by omega
        have b2 : -9223372036854775808 ≤ t.hi ∧ t.hi ≤ 9223372036854775807 := by omega
        have et : Span.mk t.lo t.hi = t := rfl
        have hfl : ∀ bb, (List.flatMap Span.cs (tTab x bb k)).length = k * 2 := fun bb => by rw [flat_len Span.cs (n := 2) (fun _ => rfl), tTab_len]
        have hr : (k + 1) * 16 ≤ 140737488355328 := by omega
        have hnx := fun bb => tTab_succ x bb k
        rw [het] at hnx
        simp (decide := true) (maxSteps := 4000000) only [go_sem, Nat.reduceAdd, Nat.reduceSub, Nat.reduceMul, Nat.reduceDiv, Nat.reduceMod, Nat.reduceLT, Nat.reduceLeDiff, Nat.reduceEqDiff, Nat.reduceBEq, Nat.reduceBNe, Nat.reduceGT, Int.reduceAdd, Int.reduceSub, Int.reduceMul, Int.reduceNeg, Int.reduceLT, Int.reduceLE, Int.reduceEq, Int.reduceNe, Int.reduceBEq, Int.reduceBNe, Int.reduceToNat, Int.reduceGT, Int.reduceGE, ↓reduceIte, decide_true, decide_false, eq_self, Nat.mul_one, Nat.zero_mul, Nat.one_mul, Int.le_refl, Nat.le_refl, Int.cast_ofNat_Int, hlt, hd, Span.cs, Span.t, Sx.cs, lb, b1, b2, et, hfl, hr, Int.toNat_natCast, unI_nil, unI_ic, List.length_nil, hTC]
        refine hI1 _ ⟨k + 1, by omega⟩ (by simp only; omega) ?_
        simp (decide := true) (maxSteps := 4000000) only [go_sem, Nat.reduceAdd, Nat.reduceSub, Nat.reduceMul, Nat.reduceDiv, Nat.reduceMod, Nat.reduceLT, Nat.reduceLeDiff, Nat.reduceEqDiff, Nat.reduceBEq, Nat.reduceBNe, Nat.reduceGT, Int.reduceAdd, Int.reduceSub, Int.reduceMul, Int.reduceNeg, Int.reduceLT, Int.reduceLE, Int.reduceEq, Int.reduceNe, Int.reduceBEq, Int.reduceBNe, Int.reduceToNat, Int.reduceGT, Int.reduceGE, ↓reduceIte, decide_true, decide_false, eq_self, Nat.mul_one, Nat.zero_mul, Nat.one_mul, Int.le_refl, Nat.le_refl, Int.cast_ofNat_Int, hc1, hnx, List.flatMap_append, Span.cs, Sx.cs]
      · have hke : k = x.tab.length := by omega
        subst hke
        simp (decide := true) (maxSteps := 4000000) only [go_sem, Nat.reduceAdd, Nat.reduceSub, Nat.reduceMul, Nat.reduceDiv, Nat.reduceMod, Nat.reduceLT, Nat.reduceLeDiff, Nat.reduceEqDiff, Nat.reduceBEq, Nat.reduceBNe, Nat.reduceGT, Int.reduceAdd, Int.reduceSub, Int.reduceMul, Int.reduceNeg, Int.reduceLT, Int.reduceLE, Int.reduceEq, Int.reduceNe, Int.reduceBEq, Int.reduceBNe, Int.reduceToNat, Int.reduceGT, Int.reduceGE, ↓reduceIte, decide_true, decide_false, eq_self, Nat.mul_one, Nat.zero_mul, Nat.one_mul, Int.le_refl, Nat.le_refl, Int.cast_ofNat_Int, hlt]
        refine hQ1 _ _ ?_
        simp (decide := true) (maxSteps := 4000000) only [go_sem, Nat.reduceAdd, Nat.reduceSub, Nat.reduceMul, Nat.reduceDiv, Nat.reduceMod, Nat.reduceLT, Nat.reduceLeDiff, Nat.reduceEqDiff, Nat.reduceBEq, Nat.reduceBNe, Nat.reduceGT, Int.reduceAdd, Int.reduceSub, Int.reduceMul, Int.reduceNeg, Int.reduceLT, Int.reduceLE, Int.reduceEq, Int.reduceNe, Int.reduceBEq, Int.reduceBNe, Int.reduceToNat, Int.reduceGT, Int.reduceGE, ↓reduceIte, decide_true, decide_false, eq_self, Nat.mul_one, Nat.zero_mul, Nat.one_mul, Int.le_refl, Nat.le_refl, Int.cast_ofNat_Int]
        refine pwpC_loopU (A := { k : Nat // k ≤ x.shade.length }) [2, 4, 5, 6] (fun k => [(8, .t (.int .i64 k.1))]) (fun k => [(3, .box [.t (.int .i64 x.step), .own ((tTab x bits x.tab.length).flatMap Span.cs) x.tab.length 4, .t (.int .i64 0), .t (.int .i64 0), .t (.int .i64 x.wrong), .own ((tSh x bits k.1).flatMap Span.cs) k.1 5]), (5, .tok k.1 24)]) (fun k => x.shade.length - k.1) ⟨0, by omega⟩ (by decide) (fun _ => by rfl) ?_ fun Q2 hQ2 ⟨k, hk⟩ I2 hI2 => ?_
        · simp (decide := true) (maxSteps := 4000000) only [go_sem, Nat.reduceAdd, Nat.reduceSub, Nat.reduceMul, Nat.reduceDiv, Nat.reduceMod, Nat.reduceLT, Nat.reduceLeDiff, Nat.reduceEqDiff, Nat.reduceBEq, Nat.reduceBNe, Nat.reduceGT, Int.reduceAdd, Int.reduceSub, Int.reduceMul, Int.reduceNeg, Int.reduceLT, Int.reduceLE, Int.reduceEq, Int.reduceNe, Int.reduceBEq, Int.reduceBNe, Int.reduceToNat, Int.reduceGT, Int.reduceGE, ↓reduceIte, decide_true, decide_false, eq_self, Nat.mul_one, Nat.zero_mul, Nat.one_mul, Int.le_refl, Nat.le_refl, Int.cast_ofNat_Int, tSh, List.range_zero, List.map_nil]
        · by_cases hlt2 : (k : Int) < x.shade.length
          · have hkl : k < x.shade.length := by omega
            have h6 := h.sh
            obtain ⟨gs, rfl⟩ := hS.ne (by omega)
            obtain ⟨t, ht⟩ := get_lt hlt2
            have hd := flat_at Span.cs (n := 2) (fun _ => rfl) ht
            have het := atS_eq ht
            have htb := h.shade t (List.mem_of_getElem? ht)
            have hc1 : IntKind.i64.wrap (k + 1) = ((k + 1 : Nat) : Int) := by rw [wrap_in (by omega) (by omega)]; omega
            have w1 : IntKind.i64.wrap (2 * (k : Int)) = 2 * (k : Int) := wrap_in (by omega) (by omega)
            have w2 : IntKind.i64.wrap (2 * (k : Int) + 1) = 2 * (k : Int) + 1 := wrap_in (by omega) (by omega)
            have b1 : -9223372036854775808 ≤ t.lo ∧ t.lo ≤ 9223372036854775807 := by omega
            have b2 : -9223372036854775808 ≤ t.hi ∧ t.hi ≤ 9223372036854775807 := by omega
            have et : Span.mk t.lo t.hi = t := rfl
            have hfl : (List.flatMap Span.cs (tSh x bits k)).length = k * 2 := by rw [flat_len Span.cs (n := 2) (fun _ => rfl), tSh_len]
            have hr : (k + 1) * 16 ≤ 140737488355328 := by omega
            have hnx := tSh_succ x bits k
            rw [het] at hnx
            simp (decide := true) (maxSteps := 4000000) only [go_sem, Nat.reduceAdd, Nat.reduceSub, Nat.reduceMul, Nat.reduceDiv, Nat.reduceMod, Nat.reduceLT, Nat.reduceLeDiff, Nat.reduceEqDiff, Nat.reduceBEq, Nat.reduceBNe, Nat.reduceGT, Int.reduceAdd, Int.reduceSub, Int.reduceMul, Int.reduceNeg, Int.reduceLT, Int.reduceLE, Int.reduceEq, Int.reduceNe, Int.reduceBEq, Int.reduceBNe, Int.reduceToNat, Int.reduceGT, Int.reduceGE, ↓reduceIte, decide_true, decide_false, eq_self, Nat.mul_one, Nat.zero_mul, Nat.one_mul, Int.le_refl, Nat.le_refl, Int.cast_ofNat_Int, hlt2, hd, Span.cs, Span.t, Sx.cs, lb, b1, b2, w1, w2, et, hfl, hr, Int.toNat_natCast, unI_nil, unI_ic, List.length_nil, hTC]
            refine hI2 _ ⟨k + 1, by omega⟩ (by simp only; omega) ?_
            simp (decide := true) (maxSteps := 4000000) only [go_sem, Nat.reduceAdd, Nat.reduceSub, Nat.reduceMul, Nat.reduceDiv, Nat.reduceMod, Nat.reduceLT, Nat.reduceLeDiff, Nat.reduceEqDiff, Nat.reduceBEq, Nat.reduceBNe, Nat.reduceGT, Int.reduceAdd, Int.reduceSub, Int.reduceMul, Int.reduceNeg, Int.reduceLT, Int.reduceLE, Int.reduceEq, Int.reduceNe, Int.reduceBEq, Int.reduceBNe, Int.reduceToNat, Int.reduceGT, Int.reduceGE, ↓reduceIte, decide_true, decide_false, eq_self, Nat.mul_one, Nat.zero_mul, Nat.one_mul, Int.le_refl, Nat.le_refl, Int.cast_ofNat_Int, hc1, hnx, List.flatMap_append, Span.cs, Sx.cs]
          · have hke : k = x.shade.length := by omega
            subst hke
            have etx : truthX x bits = ⟨x.step, tTab x bits x.tab.length, tCh bits x.idx 7, x.wrong, tSh x bits x.shade.length⟩ := rfl
            obtain ⟨CI, hCI⟩ : ∃ CI, tCh bits x.idx 7 = CI := ⟨_, rfl⟩
            rcases hS with ⟨rfl, hS0⟩ | ⟨gs, rfl⟩
            · have hz : x.shade.length = 0 := by rw [hS0]; rfl
              simp (decide := true) (maxSteps := 4000000) only [go_sem, Nat.reduceAdd, Nat.reduceSub, Nat.reduceMul, Nat.reduceDiv, Nat.reduceMod, Nat.reduceLT, Nat.reduceLeDiff, Nat.reduceEqDiff, Nat.reduceBEq, Nat.reduceBNe, Nat.reduceGT, Int.reduceAdd, Int.reduceSub, Int.reduceMul, Int.reduceNeg, Int.reduceLT, Int.reduceLE, Int.reduceEq, Int.reduceNe, Int.reduceBEq, Int.reduceBNe, Int.reduceToNat, Int.reduceGT, Int.reduceGE, ↓reduceIte, decide_true, decide_false, eq_self, Nat.mul_one, Nat.zero_mul, Nat.one_mul, Int.le_refl, Nat.le_refl, Int.cast_ofNat_Int, hz]
              refine hQ2 _ _ ?_
              simp (decide := true) (maxSteps := 4000000) only [go_sem, Nat.reduceAdd, Nat.reduceSub, Nat.reduceMul, Nat.reduceDiv, Nat.reduceMod, Nat.reduceLT, Nat.reduceLeDiff, Nat.reduceEqDiff, Nat.reduceBEq, Nat.reduceBNe, Nat.reduceGT, Int.reduceAdd, Int.reduceSub, Int.reduceMul, Int.reduceNeg, Int.reduceLT, Int.reduceLE, Int.reduceEq, Int.reduceNe, Int.reduceBEq, Int.reduceBNe, Int.reduceToNat, Int.reduceGT, Int.reduceGE, ↓reduceIte, decide_true, decide_false, eq_self, Nat.mul_one, Nat.zero_mul, Nat.one_mul, Int.le_refl, Nat.le_refl, Int.cast_ofNat_Int, hz, lb, i1, i2, ei, unI_nil, unI_ic, List.length_nil, hTC, etx, hCI, hn0, rowO, tTab_len, tSh_len, Span.t, Span.cs, Sx.t, Sx.cs]
            · simp (decide := true) (maxSteps := 4000000) only [go_sem, Nat.reduceAdd, Nat.reduceSub, Nat.reduceMul, Nat.reduceDiv, Nat.reduceMod, Nat.reduceLT, Nat.reduceLeDiff, Nat.reduceEqDiff, Nat.reduceBEq, Nat.reduceBNe, Nat.reduceGT, Int.reduceAdd, Int.reduceSub, Int.reduceMul, Int.reduceNeg, Int.reduceLT, Int.reduceLE, Int.reduceEq, Int.reduceNe, Int.reduceBEq, Int.reduceBNe, Int.reduceToNat, Int.reduceGT, Int.reduceGE, ↓reduceIte, decide_true, decide_false, eq_self, Nat.mul_one, Nat.zero_mul, Nat.one_mul, Int.le_refl, Nat.le_refl, Int.cast_ofNat_Int, hlt2]
              refine hQ2 _ _ ?_
              simp (decide := true) (maxSteps := 4000000) only [go_sem, Nat.reduceAdd, Nat.reduceSub, Nat.reduceMul, Nat.reduceDiv, Nat.reduceMod, Nat.reduceLT, Nat.reduceLeDiff, Nat.reduceEqDiff, Nat.reduceBEq, Nat.reduceBNe, Nat.reduceGT, Int.reduceAdd, Int.reduceSub, Int.reduceMul, Int.reduceNeg, Int.reduceLT, Int.reduceLE, Int.reduceEq, Int.reduceNe, Int.reduceBEq, Int.reduceBNe, Int.reduceToNat, Int.reduceGT, Int.reduceGE, ↓reduceIte, decide_true, decide_false, eq_self, Nat.mul_one, Nat.zero_mul, Nat.one_mul, Int.le_refl, Nat.le_refl, Int.cast_ofNat_Int, lb, i1, i2, ei, unI_nil, unI_ic, List.length_nil, hTC, etx, hCI, hn0, rowO, tTab_len, tSh_len, Span.t, Span.cs, Sx.t, Sx.cs]
  · have hTC : True := trivial
    simp (decide := true) (maxSteps := 4000000) only [go_sem, Nat.reduceAdd, Nat.reduceSub, Nat.reduceMul, Nat.reduceDiv, Nat.reduceMod, Nat.reduceLT, Nat.reduceLeDiff, Nat.reduceEqDiff, Nat.reduceBEq, Nat.reduceBNe, Nat.reduceGT, Int.reduceAdd, Int.reduceSub, Int.reduceMul, Int.reduceNeg, Int.reduceLT, Int.reduceLE, Int.reduceEq, Int.reduceNe, Int.reduceBEq, Int.reduceBNe, Int.reduceToNat, Int.reduceGT, Int.reduceGE, ↓reduceIte, decide_true, decide_false, eq_self, Nat.mul_one, Nat.zero_mul, Nat.one_mul, Int.le_refl, Nat.le_refl, Int.cast_ofNat_Int, Try.f34, Sx.t, Sx.cs]
    refine pwpC_loopU (A := { k : Nat // k ≤ x.tab.length }) [2, 4, 5, 6] (fun k => [(7, .t (.int .i64 k.1))]) (fun k => [(3, .box [.t (.int .i64 x.step), .own ((tTab x bits k.1).flatMap Span.cs) k.1 4, .t (.int .i64 0), .t (.int .i64 0), .t (.int .i64 x.wrong), .t .nilSl]), (4, .tok k.1 24)]) (fun k => x.tab.length - k.1) ⟨0, by omega⟩ (by decide) (fun _ => by rfl) ?_ fun Q1 hQ1 ⟨k, hk⟩ I1 hI1 => ?_
    · simp (decide := true) (maxSteps := 4000000) only [go_sem, Nat.reduceAdd, Nat.reduceSub, Nat.reduceMul, Nat.reduceDiv, Nat.reduceMod, Nat.reduceLT, Nat.reduceLeDiff, Nat.reduceEqDiff, Nat.reduceBEq, Nat.reduceBNe, Nat.reduceGT, Int.reduceAdd, Int.reduceSub, Int.reduceMul, Int.reduceNeg, Int.reduceLT, Int.reduceLE, Int.reduceEq, Int.reduceNe, Int.reduceBEq, Int.reduceBNe, Int.reduceToNat, Int.reduceGT, Int.reduceGE, ↓reduceIte, decide_true, decide_false, eq_self, Nat.mul_one, Nat.zero_mul, Nat.one_mul, Int.le_refl, Nat.le_refl, Int.cast_ofNat_Int, tTab, List.range_zero, List.map_nil]
    · by_cases hlt : (k : Int) < x.tab.length
      · have hkl : k < x.tab.length := by omega
        obtain ⟨t, ht⟩ := get_lt hlt
        have hd := flat_at Span.cs (n := 2) (fun _ => rfl) ht
        have het := atS_eq ht
        have htb := h.tab t (List.mem_of_getElem? ht)
        have hc1 : IntKind.i64.wrap (k + 1) = ((k + 1 : Nat) : Int) := by rw [wrap_in (by omega) (by omega)]; omega
        have b1 : -9223372036854775808 ≤ t.lo ∧ t.lo ≤ 9223372036854775807 := by omega
        have b2 : -9223372036854775808 ≤ t.hi ∧ t.hi ≤ 9223372036854775807 := by omega
        have et : Span.mk t.lo t.hi = t := rfl
        have hfl : ∀ bb, (List.flatMap Span.cs (tTab x bb k)).length = k * 2 := fun bb => by rw [flat_len Span.cs (n := 2) (fun _ => rfl), tTab_len]
        have hr : (k + 1) * 16 ≤ 140737488355328 := by omega
        have hnx := fun bb => tTab_succ x bb k
        rw [het] at hnx
        simp (decide := true) (maxSteps := 4000000) only [go_sem, Nat.reduceAdd, Nat.reduceSub, Nat.reduceMul, Nat.reduceDiv, Nat.reduceMod, Nat.reduceLT, Nat.reduceLeDiff, Nat.reduceEqDiff, Nat.reduceBEq, Nat.reduceBNe, Nat.reduceGT, Int.reduceAdd, Int.reduceSub, Int.reduceMul, Int.reduceNeg, Int.reduceLT, Int.reduceLE, Int.reduceEq, Int.reduceNe, Int.reduceBEq, Int.reduceBNe, Int.reduceToNat, Int.reduceGT, Int.reduceGE, ↓reduceIte, decide_true, decide_false, eq_self, Nat.mul_one, Nat.zero_mul, Nat.one_mul, Int.le_refl, Nat.le_refl, Int.cast_ofNat_Int, hlt, hd, Span.cs, Span.t, Sx.cs, lb, b1, b2, et, hfl, hr, Int.toNat_natCast, unI_nil, unI_ic, List.length_nil, hTC]
        refine hI1 _ ⟨k + 1, by omega⟩ (by simp only; omega) ?_
        simp (decide := true) (maxSteps := 4000000) only [go_sem, Nat.reduceAdd, Nat.reduceSub, Nat.reduceMul, Nat.reduceDiv, Nat.reduceMod, Nat.reduceLT, Nat.reduceLeDiff, Nat.reduceEqDiff, Nat.reduceBEq, Nat.reduceBNe, Nat.reduceGT, Int.reduceAdd, Int.reduceSub, Int.reduceMul, Int.reduceNeg, Int.reduceLT, Int.reduceLE, Int.reduceEq, Int.reduceNe, Int.reduceBEq, Int.reduceBNe, Int.reduceToNat, Int.reduceGT, Int.reduceGE, ↓reduceIte, decide_true, decide_false, eq_self, Nat.mul_one, Nat.zero_mul, Nat.one_mul, Int.le_refl, Nat.le_refl, Int.cast_ofNat_Int, hc1, hnx, List.flatMap_append, Span.cs, Sx.cs]
      · have hke : k = x.tab.length := by omega
        subst hke
        simp (decide := true) (maxSteps := 4000000) only [go_sem, Nat.reduceAdd, Nat.reduceSub, Nat.reduceMul, Nat.reduceDiv, Nat.reduceMod, Nat.reduceLT, Nat.reduceLeDiff, Nat.reduceEqDiff, Nat.reduceBEq, Nat.reduceBNe, Nat.reduceGT, Int.reduceAdd, Int.reduceSub, Int.reduceMul, Int.reduceNeg, Int.reduceLT, Int.reduceLE, Int.reduceEq, Int.reduceNe, Int.reduceBEq, Int.reduceBNe, Int.reduceToNat, Int.reduceGT, Int.reduceGE, ↓reduceIte, decide_true, decide_false, eq_self, Nat.mul_one, Nat.zero_mul, Nat.one_mul, Int.le_refl, Nat.le_refl, Int.cast_ofNat_Int, hlt]
        refine hQ1 _ _ ?_
        simp (decide := true) (maxSteps := 4000000) only [go_sem, Nat.reduceAdd, Nat.reduceSub, Nat.reduceMul, Nat.reduceDiv, Nat.reduceMod, Nat.reduceLT, Nat.reduceLeDiff, Nat.reduceEqDiff, Nat.reduceBEq, Nat.reduceBNe, Nat.reduceGT, Int.reduceAdd, Int.reduceSub, Int.reduceMul, Int.reduceNeg, Int.reduceLT, Int.reduceLE, Int.reduceEq, Int.reduceNe, Int.reduceBEq, Int.reduceBNe, Int.reduceToNat, Int.reduceGT, Int.reduceGE, ↓reduceIte, decide_true, decide_false, eq_self, Nat.mul_one, Nat.zero_mul, Nat.one_mul, Int.le_refl, Nat.le_refl, Int.cast_ofNat_Int]
        refine pwpC_loopU (A := { k : Nat // k ≤ x.shade.length }) [2, 4, 5, 6] (fun k => [(8, .t (.int .i64 k.1))]) (fun k => [(3, .box [.t (.int .i64 x.step), .own ((tTab x bits x.tab.length).flatMap Span.cs) x.tab.length 4, .t (.int .i64 0), .t (.int .i64 0), .t (.int .i64 x.wrong), .own ((tSh x bits k.1).flatMap Span.cs) k.1 5]), (5, .tok k.1 24)]) (fun k => x.shade.length - k.1) ⟨0, by omega⟩ (by decide) (fun _ => by rfl) ?_ fun Q2 hQ2 ⟨k, hk⟩ I2 hI2 => ?_
        · simp (decide := true) (maxSteps := 4000000) only [go_sem, Nat.reduceAdd, Nat.reduceSub, Nat.reduceMul, Nat.reduceDiv, Nat.reduceMod, Nat.reduceLT, Nat.reduceLeDiff, Nat.reduceEqDiff, Nat.reduceBEq, Nat.reduceBNe, Nat.reduceGT, Int.reduceAdd, Int.reduceSub, Int.reduceMul, Int.reduceNeg, Int.reduceLT, Int.reduceLE, Int.reduceEq, Int.reduceNe, Int.reduceBEq, Int.reduceBNe, Int.reduceToNat, Int.reduceGT, Int.reduceGE, ↓reduceIte, decide_true, decide_false, eq_self, Nat.mul_one, Nat.zero_mul, Nat.one_mul, Int.le_refl, Nat.le_refl, Int.cast_ofNat_Int, tSh, List.range_zero, List.map_nil]
        · by_cases hlt2 : (k : Int) < x.shade.length
          · have hkl : k < x.shade.length := by omega
            have h6 := h.sh
            obtain ⟨gs, rfl⟩ := hS.ne (by omega)
            obtain ⟨t, ht⟩ := get_lt hlt2
            have hd := flat_at Span.cs (n := 2) (fun _ => rfl) ht
            have het := atS_eq ht
            have htb := h.shade t (List.mem_of_getElem? ht)
            have hc1 : IntKind.i64.wrap (k + 1) = ((k + 1 : Nat) : Int) := by rw [wrap_in (by omega) (by omega)]; omega
            have w1 : IntKind.i64.wrap (2 * (k : Int)) = 2 * (k : Int) := wrap_in (by omega) (by omega)
            have w2 : IntKind.i64.wrap (2 * (k : Int) + 1) = 2 * (k : Int) + 1 := wrap_in (by omega) (by omega)
            have b1 : -9223372036854775808 ≤ t.lo ∧ t.lo ≤ 9223372036854775807 := by omega
            have b2 : -9223372036854775808 ≤ t.hi ∧ t.hi ≤ 9223372036854775807 := by omega
            have et : Span.mk t.lo t.hi = t := rfl
            have hfl : (List.flatMap Span.cs (tSh x bits k)).length = k * 2 := by rw [flat_len Span.cs (n := 2) (fun _ => rfl), tSh_len]
            have hr : (k + 1) * 16 ≤ 140737488355328 := by omega
            have hnx := tSh_succ x bits k
            rw [het] at hnx
            simp (decide := true) (maxSteps := 4000000) only [go_sem, Nat.reduceAdd, Nat.reduceSub, Nat.reduceMul, Nat.reduceDiv, Nat.reduceMod, Nat.reduceLT, Nat.reduceLeDiff, Nat.reduceEqDiff, Nat.reduceBEq, Nat.reduceBNe, Nat.reduceGT, Int.reduceAdd, Int.reduceSub, Int.reduceMul, Int.reduceNeg, Int.reduceLT, Int.reduceLE, Int.reduceEq, Int.reduceNe, Int.reduceBEq, Int.reduceBNe, Int.reduceToNat, Int.reduceGT, Int.reduceGE, ↓reduceIte, decide_true, decide_false, eq_self, Nat.mul_one, Nat.zero_mul, Nat.one_mul, Int.le_refl, Nat.le_refl, Int.cast_ofNat_Int, hlt2, hd, Span.cs, Span.t, Sx.cs, lb, b1, b2, w1, w2, et, hfl, hr, Int.toNat_natCast, unI_nil, unI_ic, List.length_nil, hTC]
            refine hI2 _ ⟨k + 1, by omega⟩ (by simp only; omega) ?_
            simp (decide := true) (maxSteps := 4000000) only [go_sem, Nat.reduceAdd, Nat.reduceSub, Nat.reduceMul, Nat.reduceDiv, Nat.reduceMod, Nat.reduceLT, Nat.reduceLeDiff, Nat.reduceEqDiff, Nat.reduceBEq, Nat.reduceBNe, Nat.reduceGT, Int.reduceAdd, Int.reduceSub, Int.reduceMul, Int.reduceNeg, Int.reduceLT, Int.reduceLE, Int.reduceEq, Int.reduceNe, Int.reduceBEq, Int.reduceBNe, Int.reduceToNat, Int.reduceGT, Int.reduceGE, ↓reduceIte, decide_true, decide_false, eq_self, Nat.mul_one, Nat.zero_mul, Nat.one_mul, Int.le_refl, Nat.le_refl, Int.cast_ofNat_Int, hc1, hnx, List.flatMap_append, Span.cs, Sx.cs]
          · have hke : k = x.shade.length := by omega
            subst hke
            have etx : truthX x bits = ⟨x.step, tTab x bits x.tab.length, tCh bits x.idx 7, x.wrong, tSh x bits x.shade.length⟩ := rfl
            obtain ⟨CI, hCI⟩ : ∃ CI, tCh bits x.idx 7 = CI := ⟨_, rfl⟩
            rcases hS with ⟨rfl, hS0⟩ | ⟨gs, rfl⟩
            · have hz : x.shade.length = 0 := by rw [hS0]; rfl
              simp (decide := true) (maxSteps := 4000000) only [go_sem, Nat.reduceAdd, Nat.reduceSub, Nat.reduceMul, Nat.reduceDiv, Nat.reduceMod, Nat.reduceLT, Nat.reduceLeDiff, Nat.reduceEqDiff, Nat.reduceBEq, Nat.reduceBNe, Nat.reduceGT, Int.reduceAdd, Int.reduceSub, Int.reduceMul, Int.reduceNeg, Int.reduceLT, Int.reduceLE, Int.reduceEq, Int.reduceNe, Int.reduceBEq, Int.reduceBNe, Int.reduceToNat, Int.reduceGT, Int.reduceGE, ↓reduceIte, decide_true, decide_false, eq_self, Nat.mul_one, Nat.zero_mul, Nat.one_mul, Int.le_refl, Nat.le_refl, Int.cast_ofNat_Int, hz]
              refine hQ2 _ _ ?_
              simp (decide := true) (maxSteps := 4000000) only [go_sem, Nat.reduceAdd, Nat.reduceSub, Nat.reduceMul, Nat.reduceDiv, Nat.reduceMod, Nat.reduceLT, Nat.reduceLeDiff, Nat.reduceEqDiff, Nat.reduceBEq, Nat.reduceBNe, Nat.reduceGT, Int.reduceAdd, Int.reduceSub, Int.reduceMul, Int.reduceNeg, Int.reduceLT, Int.reduceLE, Int.reduceEq, Int.reduceNe, Int.reduceBEq, Int.reduceBNe, Int.reduceToNat, Int.reduceGT, Int.reduceGE, ↓reduceIte, decide_true, decide_false, eq_self, Nat.mul_one, Nat.zero_mul, Nat.one_mul, Int.le_refl, Nat.le_refl, Int.cast_ofNat_Int, hz, lb, i1, i2, ei, unI_nil, unI_ic, List.length_nil, hTC, etx, hCI, hn0, rowO, tTab_len, tSh_len, Span.t, Span.cs, Sx.t, Sx.cs]
            · simp (decide := true) (maxSteps := 4000000) only [go_sem, Nat.reduceAdd, Nat.reduceSub, Nat.reduceMul, Nat.reduceDiv, Nat.reduceMod, Nat.reduceLT, Nat.reduceLeDiff, Nat.reduceEqDiff, Nat.reduceBEq, Nat.reduceBNe, Nat.reduceGT, Int.reduceAdd, Int.reduceSub, Int.reduceMul, Int.reduceNeg, Int.reduceLT, Int.reduceLE, Int.reduceEq, Int.reduceNe, Int.reduceBEq, Int.reduceBNe, Int.reduceToNat, Int.reduceGT, Int.reduceGE, ↓reduceIte, decide_true, decide_false, eq_self, Nat.mul_one, Nat.zero_mul, Nat.one_mul, Int.le_refl, Nat.le_refl, Int.cast_ofNat_Int, hlt2]
              refine hQ2 _ _ ?_
              simp (decide := true) (maxSteps := 4000000) only [go_sem, Nat.reduceAdd, Nat.reduceSub, Nat.reduceMul, Nat.reduceDiv, Nat.reduceMod, Nat.reduceLT, Nat.reduceLeDiff, Nat.reduceEqDiff, Nat.reduceBEq, Nat.reduceBNe, Nat.reduceGT, Int.reduceAdd, Int.reduceSub, Int.reduceMul, Int.reduceNeg, Int.reduceLT, Int.reduceLE, Int.reduceEq, Int.reduceNe, Int.reduceBEq, Int.reduceBNe, Int.reduceToNat, Int.reduceGT, Int.reduceGE, ↓reduceIte, decide_true, decide_false, eq_self, Nat.mul_one, Nat.zero_mul, Nat.one_mul, Int.le_refl, Nat.le_refl, Int.cast_ofNat_Int, lb, i1, i2, ei, unI_nil, unI_ic, List.length_nil, hTC, etx, hCI, hn0, rowO, tTab_len, tSh_len, Span.t, Span.cs, Sx.t, Sx.cs]
end Go.Proofs.Ytjmkccckohcfkaa

/- Part Ocb. -/
namespace Go.Os
open Go Go.Pm Go.Oc Go.Oh
theorem last_wr' {x : Sx} (h : GoodS x) : IntKind.i64.wrap (x.step * IntKind.i64.wrap (x.tab.length - 1)) = last x := by
  have hb := last_b h
  have hl := h.len
  rw [wrap_in (n := (x.tab.length : Int) - 1) (by omega) (by omega)]
  exact wrap_in (show _ ≤ last x by omega) (show last x ≤ _ by omega)
end Go.Os
namespace Go.Proofs.Ytjmkccckohcfkaa
open Go.RowKit Go.Pm Go.Oc Go.Oh Go.Os
set_option maxRecDepth 100000
set_option linter.unusedVariables false
set_option maxHeartbeats 4000000

theorem oAngle_c (x : Sx) {sT sS : TV} (hT : IsRow Span.cs sT x.tab) (hS : IsRow Span.cs sS x.shade) (hv : sxOk x = true) (a : Int) (ha : 0 ≤ a) (ha3 : a ≤ last x) (set : Nat) (w : Int) (hw : -60 ≤ w ∧ w ≤ 60) : PCalls Try.prog 36 [x.t sT sS, .agg [.int .i64 a, .int .i64 set], .int .i64 w] (.int .i64 (angleV x a set w)) := by
  have h := sxOk_iff.1 hv
  obtain ⟨f, rfl⟩ := good_T h hT
  have h1 := h.st
  have hg := h.tab
  have hlb := last_b h
  have hit := rd_tab h ha ha3
  have hlen := h.len
  have hix := h.idx
  have h6 := h.sh
  have hne : ¬ x.step = 0 := by omega
  have q1 : a.tdiv x.step = a / x.step := Int.tdiv_eq_ediv_of_nonneg ha
  have q2 : a.tmod x.step = a % x.step := Int.tmod_eq_emod_of_nonneg ha
  have hq := hit.k0
  have hqn := hit.kn
  have hd0 := hit.d0
  have hds := hit.ds
  have hqb : a / x.step ≤ 504000 := Int.le_trans (Int.ediv_le_self x.step ha) (by omega)
  have hcb := corr_b hit h.tab
  obtain ⟨k, hk⟩ : ∃ k : Nat, a / x.step = k := ⟨(a / x.step).toNat, (Int.toNat_of_nonneg hq).symm⟩
  obtain ⟨d, hd⟩ : ∃ d : Int, a % x.step = d := ⟨_, rfl⟩
  have w1 : IntKind.i64.wrap (k : Int) = k := wrap_in (by omega) (by omega)
  have w2 : IntKind.i64.wrap d = d := wrap_in (by omega) (by omega)
  rw [hk, Int.toNat_natCast] at hqn
  have hkl : (k : Int) < x.tab.length := by omega
  obtain ⟨u, hx⟩ := get_lt hkl
  have dx := flat_at Span.cs (n := 2) (fun _ => rfl) hx
  have ex := atS_eq hx
  have gx := hg u (List.mem_of_getElem? hx)
  have n1 : IntKind.i64.wrap (a + x.idx.lo) = a + x.idx.lo := wrap_in (by omega) (by omega)
  have n2 : IntKind.i64.wrap (a + x.idx.lo + w) = a + x.idx.lo + w := wrap_in (by omega) (by omega)
  have av : angleV x a set w = a + x.idx.lo + w + (corr x.step x.tab a).lo + shL x set x.shade.length := rfl
  obtain ⟨C, hC⟩ : ∃ C, (corr x.step x.tab a).lo = C := ⟨_, rfl⟩
  have hCb : -600 ≤ C ∧ C ≤ 600 := by omega
  have n3 : IntKind.i64.wrap (a + x.idx.lo + w + C) = a + x.idx.lo + w + C := wrap_in (by omega) (by omega)
  rw [hC] at av
  obtain ⟨M, hM⟩ : ∃ M, a + x.idx.lo + w + C = M := ⟨_, rfl⟩
  have hMb : -10000000 ≤ M ∧ M ≤ 10000000 := by omega
  rw [hM] at av n3
  have h60 : -60 ≤ w := hw.1
  have hsl := shL_b h set
  refine pcalls_by Try.mixes spO5_ok (fn := Try.f36) Try.func36 rfl (by kernel_rfl) (by show 3 ≤ _; decide) ?_
  rw [av]
  by_cases hd00 : d = 0
  · subst hd00
    have e : (corr x.step x.tab a).lo = u.lo := by unfold corr; simp only [hd, hk, Int.toNat_natCast, if_true, ex]
    have b0 : ((0 : Int) == 0) = true := rfl
    have hCu : u.lo = C := by rw [← hC]; exact e.symm
    simp (decide := true) (maxSteps := 4000000) only [go_sem, Nat.reduceAdd, Nat.reduceSub, Nat.reduceMul, Nat.reduceDiv, Nat.reduceMod, Nat.reduceLT, Nat.reduceLeDiff, Nat.reduceEqDiff, Nat.reduceBEq, Nat.reduceBNe, Nat.reduceGT, Int.reduceAdd, Int.reduceSub, Int.reduceMul, Int.reduceNeg, Int.reduceLT, Int.reduceLE, Int.reduceEq, Int.reduceNe, Int.reduceBEq, Int.reduceBNe, Int.reduceToNat, Int.reduceGT, Int.reduceGE, ↓reduceIte, decide_true, decide_false, eq_self, Nat.mul_one, Nat.zero_mul, Nat.one_mul, Int.le_refl, Nat.le_refl, Int.cast_ofNat_Int, Try.f36, Sx.t, Sx.cs, hne, q1, q2, hk, hd, w1, w2, b0, hkl, Int.toNat_natCast, dx, Span.cs, n1, n2, hCu, hM, n3]
    rcases hS with ⟨rfl, hS0⟩ | ⟨g, rfl⟩
    · have hz : shL x set x.shade.length = 0 := by rw [hS0]; rfl
      refine pwpC_loopU (A := Unit) [3, 4, 6, 9] (fun _ => [(10, .t (.int .i64 0))]) (fun _ => []) (fun _ => 0) () (by decide) (fun _ => by rfl) ?_ fun Q1 hQ1 _ I1 hI1 => ?_
      · simp (decide := true) (maxSteps := 4000000) only [go_sem, Nat.reduceAdd, Nat.reduceSub, Nat.reduceMul, Nat.reduceDiv, Nat.reduceMod, Nat.reduceLT, Nat.reduceLeDiff, Nat.reduceEqDiff, Nat.reduceBEq, Nat.reduceBNe, Nat.reduceGT, Int.reduceAdd, Int.reduceSub, Int.reduceMul, Int.reduceNeg, Int.reduceLT, Int.reduceLE, Int.reduceEq, Int.reduceNe, Int.reduceBEq, Int.reduceBNe, Int.reduceToNat, Int.reduceGT, Int.reduceGE, ↓reduceIte, decide_true, decide_false, eq_self, Nat.mul_one, Nat.zero_mul, Nat.one_mul, Int.le_refl, Nat.le_refl, Int.cast_ofNat_Int]
      · simp (decide := true) (maxSteps := 4000000) only [go_sem, Nat.reduceAdd, Nat.reduceSub, Nat.reduceMul, Nat.reduceDiv, Nat.reduceMod, Nat.reduceLT, Nat.reduceLeDiff, Nat.reduceEqDiff, Nat.reduceBEq, Nat.reduceBNe, Nat.reduceGT, Int.reduceAdd, Int.reduceSub, Int.reduceMul, Int.reduceNeg, Int.reduceLT, Int.reduceLE, Int.reduceEq, Int.reduceNe, Int.reduceBEq, Int.reduceBNe, Int.reduceToNat, Int.reduceGT, Int.reduceGE, ↓reduceIte, decide_true, decide_false, eq_self, Nat.mul_one, Nat.zero_mul, Nat.one_mul, Int.le_refl, Nat.le_refl, Int.cast_ofNat_Int]
        refine hQ1 _ _ ?_
        simp (decide := true) (maxSteps := 4000000) only [go_sem, Nat.reduceAdd, Nat.reduceSub, Nat.reduceMul, Nat.reduceDiv, Nat.reduceMod, Nat.reduceLT, Nat.reduceLeDiff, Nat.reduceEqDiff, Nat.reduceBEq, Nat.reduceBNe, Nat.reduceGT, Int.reduceAdd, Int.reduceSub, Int.reduceMul, Int.reduceNeg, Int.reduceLT, Int.reduceLE, Int.reduceEq, Int.reduceNe, Int.reduceBEq, Int.reduceBNe, Int.reduceToNat, Int.reduceGT, Int.reduceGE, ↓reduceIte, decide_true, decide_false, eq_self, Nat.mul_one, Nat.zero_mul, Nat.one_mul, Int.le_refl, Nat.le_refl, Int.cast_ofNat_Int, hz, hM, Int.add_zero]
    · refine pwpC_loopU (A := { j : Nat // j ≤ x.shade.length }) [3, 4, 6] (fun j => [(10, .t (.int .i64 j.1)), (9, .t (.int .i64 (M + shL x set j.1)))]) (fun _ => []) (fun j => x.shade.length - j.1) ⟨0, by omega⟩ (by decide) (fun _ => by rfl) ?_ fun Q1 hQ1 ⟨j, hj⟩ I1 hI1 => ?_
      · simp (decide := true) (maxSteps := 4000000) only [go_sem, Nat.reduceAdd, Nat.reduceSub, Nat.reduceMul, Nat.reduceDiv, Nat.reduceMod, Nat.reduceLT, Nat.reduceLeDiff, Nat.reduceEqDiff, Nat.reduceBEq, Nat.reduceBNe, Nat.reduceGT, Int.reduceAdd, Int.reduceSub, Int.reduceMul, Int.reduceNeg, Int.reduceLT, Int.reduceLE, Int.reduceEq, Int.reduceNe, Int.reduceBEq, Int.reduceBNe, Int.reduceToNat, Int.reduceGT, Int.reduceGE, ↓reduceIte, decide_true, decide_false, eq_self, Nat.mul_one, Nat.zero_mul, Nat.one_mul, Int.le_refl, Nat.le_refl, Int.cast_ofNat_Int, shL, List.range_zero, List.foldl_nil, Int.add_zero, hM]
      · by_cases hlt : (j : Int) < x.shade.length
        · obtain ⟨s, hs⟩ := get_lt hlt
          have hds' := flat_at Span.cs (n := 2) (fun _ => rfl) hs
          have hc1 : IntKind.i64.wrap (j + 1) = ((j + 1 : Nat) : Int) := by rw [wrap_in (by omega) (by omega)]; omega
          have hes := atS_eq hs
          have hsb := h.shade s (List.mem_of_getElem? hs)
          have hnx := shL_succ x set j
          rw [hes] at hnx
          have hlj := hsl j hj
          have k64 : (0 : Int) ≤ j ∧ (j : Int) < 64 := by omega
          have s0 : (0 : Int) ≤ set := by omega
          have wj : IntKind.i64.wrap (M + shL x set j + s.lo) = M + (shL x set j + s.lo) := by rw [wrap_in (by omega) (by omega)]; omega
          cases hb : set.testBit j with
          | false =>
            rw [hb] at hnx
            simp (decide := true) (maxSteps := 4000000) only [go_sem, Nat.reduceAdd, Nat.reduceSub, Nat.reduceMul, Nat.reduceDiv, Nat.reduceMod, Nat.reduceLT, Nat.reduceLeDiff, Nat.reduceEqDiff, Nat.reduceBEq, Nat.reduceBNe, Nat.reduceGT, Int.reduceAdd, Int.reduceSub, Int.reduceMul, Int.reduceNeg, Int.reduceLT, Int.reduceLE, Int.reduceEq, Int.reduceNe, Int.reduceBEq, Int.reduceBNe, Int.reduceToNat, Int.reduceGT, Int.reduceGE, ↓reduceIte, decide_true, decide_false, eq_self, Nat.mul_one, Nat.zero_mul, Nat.one_mul, Int.le_refl, Nat.le_refl, Int.cast_ofNat_Int, hlt, hds', Span.cs, Int.toNat_natCast, k64, s0, hb, Sx.cs]
            refine hI1 _ ⟨j + 1, by omega⟩ (by simp only; omega) ?_
            simp (decide := true) (maxSteps := 4000000) only [go_sem, Nat.reduceAdd, Nat.reduceSub, Nat.reduceMul, Nat.reduceDiv, Nat.reduceMod, Nat.reduceLT, Nat.reduceLeDiff, Nat.reduceEqDiff, Nat.reduceBEq, Nat.reduceBNe, Nat.reduceGT, Int.reduceAdd, Int.reduceSub, Int.reduceMul, Int.reduceNeg, Int.reduceLT, Int.reduceLE, Int.reduceEq, Int.reduceNe, Int.reduceBEq, Int.reduceBNe, Int.reduceToNat, Int.reduceGT, Int.reduceGE, ↓reduceIte, decide_true, decide_false, eq_self, Nat.mul_one, Nat.zero_mul, Nat.one_mul, Int.le_refl, Nat.le_refl, Int.cast_ofNat_Int, hc1, hnx, Sx.cs, Span.cs]
          | true =>
            rw [hb] at hnx
            simp (decide := true) (maxSteps := 4000000) only [go_sem, Nat.reduceAdd, Nat.reduceSub, Nat.reduceMul, Nat.reduceDiv, Nat.reduceMod, Nat.reduceLT, Nat.reduceLeDiff, Nat.reduceEqDiff, Nat.reduceBEq, Nat.reduceBNe, Nat.reduceGT, Int.reduceAdd, Int.reduceSub, Int.reduceMul, Int.reduceNeg, Int.reduceLT, Int.reduceLE, Int.reduceEq, Int.reduceNe, Int.reduceBEq, Int.reduceBNe, Int.reduceToNat, Int.reduceGT, Int.reduceGE, ↓reduceIte, decide_true, decide_false, eq_self, Nat.mul_one, Nat.zero_mul, Nat.one_mul, Int.le_refl, Nat.le_refl, Int.cast_ofNat_Int, hlt, hds', Span.cs, Int.toNat_natCast, k64, s0, hb, wj, Sx.cs]
            refine hI1 _ ⟨j + 1, by omega⟩ (by simp only; omega) ?_
            simp (decide := true) (maxSteps := 4000000) only [go_sem, Nat.reduceAdd, Nat.reduceSub, Nat.reduceMul, Nat.reduceDiv, Nat.reduceMod, Nat.reduceLT, Nat.reduceLeDiff, Nat.reduceEqDiff, Nat.reduceBEq, Nat.reduceBNe, Nat.reduceGT, Int.reduceAdd, Int.reduceSub, Int.reduceMul, Int.reduceNeg, Int.reduceLT, Int.reduceLE, Int.reduceEq, Int.reduceNe, Int.reduceBEq, Int.reduceBNe, Int.reduceToNat, Int.reduceGT, Int.reduceGE, ↓reduceIte, decide_true, decide_false, eq_self, Nat.mul_one, Nat.zero_mul, Nat.one_mul, Int.le_refl, Nat.le_refl, Int.cast_ofNat_Int, hc1, hnx, Sx.cs, Span.cs]
        · have hje : j = x.shade.length := by omega
          subst hje
          simp (decide := true) (maxSteps := 4000000) only [go_sem, Nat.reduceAdd, Nat.reduceSub, Nat.reduceMul, Nat.reduceDiv, Nat.reduceMod, Nat.reduceLT, Nat.reduceLeDiff, Nat.reduceEqDiff, Nat.reduceBEq, Nat.reduceBNe, Nat.reduceGT, Int.reduceAdd, Int.reduceSub, Int.reduceMul, Int.reduceNeg, Int.reduceLT, Int.reduceLE, Int.reduceEq, Int.reduceNe, Int.reduceBEq, Int.reduceBNe, Int.reduceToNat, Int.reduceGT, Int.reduceGE, ↓reduceIte, decide_true, decide_false, eq_self, Nat.mul_one, Nat.zero_mul, Nat.one_mul, Int.le_refl, Nat.le_refl, Int.cast_ofNat_Int, hlt]
          refine hQ1 _ _ ?_
          simp (decide := true) (maxSteps := 4000000) only [go_sem, Nat.reduceAdd, Nat.reduceSub, Nat.reduceMul, Nat.reduceDiv, Nat.reduceMod, Nat.reduceLT, Nat.reduceLeDiff, Nat.reduceEqDiff, Nat.reduceBEq, Nat.reduceBNe, Nat.reduceGT, Int.reduceAdd, Int.reduceSub, Int.reduceMul, Int.reduceNeg, Int.reduceLT, Int.reduceLE, Int.reduceEq, Int.reduceNe, Int.reduceBEq, Int.reduceBNe, Int.reduceToNat, Int.reduceGT, Int.reduceGE, ↓reduceIte, decide_true, decide_false, eq_self, Nat.mul_one, Nat.zero_mul, Nat.one_mul, Int.le_refl, Nat.le_refl, Int.cast_ofNat_Int]
  · have hkd := hit.kd (by rw [hd]; exact hd00)
    rw [hk, Int.toNat_natCast] at hkd
    have hkl1 : ((k + 1 : Nat) : Int) < x.tab.length := by omega
    obtain ⟨y, hy⟩ := get_lt hkl1
    have dy := flat_at Span.cs (n := 2) (fun _ => rfl) hy
    have ey := atS_eq hy
    have gy := hg y (List.mem_of_getElem? hy)
    obtain ⟨st, hst⟩ : ∃ st, x.step = st := ⟨_, rfl⟩
    have e : (corr x.step x.tab a).lo = (u.lo * (st - d) + y.lo * d) / st := by unfold corr; simp only [hd, hk, Int.toNat_natCast, if_neg hd00, ex, ey]; rw [hst]
    have hCu : (u.lo * (st - d) + y.lo * d) / st = C := by rw [← hC]; exact e.symm
    rw [hd] at hd0 hds
    rw [hst] at h1 hds
    have b0 : (d == 0) = false := beq_int_f hd00
    have w3 : IntKind.i64.wrap ((k : Int) + 1) = ((k + 1 : Nat) : Int) := by rw [wrap_in (by omega) (by omega)]; omega
    have w4 : IntKind.i64.wrap (st - d) = st - d := wrap_in (by omega) (by omega)
    have p1 := mulR (a := u.lo) (b := st - d) (m := 600) (n := 72000) (by omega) (by omega) (by omega)
    have p2 := mulR (a := y.lo) (b := d) (m := 600) (n := 72000) (by omega) (by omega) (by omega)
    obtain ⟨x0, x1⟩ := u
    obtain ⟨y0, y1⟩ := y
    simp only at p1 p2 dx dy hCu
    have w5 : IntKind.i64.wrap (x0 * (st - d)) = x0 * (st - d) := wrap_in (by omega) (by omega)
    have w6 : IntKind.i64.wrap (y0 * d) = y0 * d := wrap_in (by omega) (by omega)
    have w9 : IntKind.i64.wrap (x0 * (st - d) + y0 * d) = x0 * (st - d) + y0 * d := wrap_in (by omega) (by omega)
    have c1 : (-4000000000000000000 ≤ x0 * (st - d) + y0 * d ∧ x0 * (st - d) + y0 * d ≤ 4000000000000000000) ∧ 0 < st ∧ st ≤ 4000000000000000000 := by omega
    rw [hst] at hne q1 q2 hk hd
    simp (decide := true) (maxSteps := 4000000) only [go_sem, Nat.reduceAdd, Nat.reduceSub, Nat.reduceMul, Nat.reduceDiv, Nat.reduceMod, Nat.reduceLT, Nat.reduceLeDiff, Nat.reduceEqDiff, Nat.reduceBEq, Nat.reduceBNe, Nat.reduceGT, Int.reduceAdd, Int.reduceSub, Int.reduceMul, Int.reduceNeg, Int.reduceLT, Int.reduceLE, Int.reduceEq, Int.reduceNe, Int.reduceBEq, Int.reduceBNe, Int.reduceToNat, Int.reduceGT, Int.reduceGE, ↓reduceIte, decide_true, decide_false, eq_self, Nat.mul_one, Nat.zero_mul, Nat.one_mul, Int.le_refl, Nat.le_refl, Int.cast_ofNat_Int, Try.f36, Sx.t, Sx.cs, hst, hne, q1, q2, hk, hd, w1, w2, w3, b0, hkl, hkl1, Int.toNat_natCast, dx, dy, w4, w5, w6, w9, c1, Span.cs, n1, n2, hCu, hM, n3]
    rcases hS with ⟨rfl, hS0⟩ | ⟨g, rfl⟩
    · have hz : shL x set x.shade.length = 0 := by rw [hS0]; rfl
      refine pwpC_loopU (A := Unit) [3, 4, 6, 9] (fun _ => [(10, .t (.int .i64 0))]) (fun _ => []) (fun _ => 0) () (by decide) (fun _ => by rfl) ?_ fun Q1 hQ1 _ I1 hI1 => ?_
      · simp (decide := true) (maxSteps := 4000000) only [go_sem, Nat.reduceAdd, Nat.reduceSub, Nat.reduceMul, Nat.reduceDiv, Nat.reduceMod, Nat.reduceLT, Nat.reduceLeDiff, Nat.reduceEqDiff, Nat.reduceBEq, Nat.reduceBNe, Nat.reduceGT, Int.reduceAdd, Int.reduceSub, Int.reduceMul, Int.reduceNeg, Int.reduceLT, Int.reduceLE, Int.reduceEq, Int.reduceNe, Int.reduceBEq, Int.reduceBNe, Int.reduceToNat, Int.reduceGT, Int.reduceGE, ↓reduceIte, decide_true, decide_false, eq_self, Nat.mul_one, Nat.zero_mul, Nat.one_mul, Int.le_refl, Nat.le_refl, Int.cast_ofNat_Int]
      · simp (decide := true) (maxSteps := 4000000) only [go_sem, Nat.reduceAdd, Nat.reduceSub, Nat.reduceMul, Nat.reduceDiv, Nat.reduceMod, Nat.reduceLT, Nat.reduceLeDiff, Nat.reduceEqDiff, Nat.reduceBEq, Nat.reduceBNe, Nat.reduceGT, Int.reduceAdd, Int.reduceSub, Int.reduceMul, Int.reduceNeg, Int.reduceLT, Int.reduceLE, Int.reduceEq, Int.reduceNe, Int.reduceBEq, Int.reduceBNe, Int.reduceToNat, Int.reduceGT, Int.reduceGE, ↓reduceIte, decide_true, decide_false, eq_self, Nat.mul_one, Nat.zero_mul, Nat.one_mul, Int.le_refl, Nat.le_refl, Int.cast_ofNat_Int]
        refine hQ1 _ _ ?_
        simp (decide := true) (maxSteps := 4000000) only [go_sem, Nat.reduceAdd, Nat.reduceSub, Nat.reduceMul, Nat.reduceDiv, Nat.reduceMod, Nat.reduceLT, Nat.reduceLeDiff, Nat.reduceEqDiff, Nat.reduceBEq, Nat.reduceBNe, Nat.reduceGT, Int.reduceAdd, Int.reduceSub, Int.reduceMul, Int.reduceNeg, Int.reduceLT, Int.reduceLE, Int.reduceEq, Int.reduceNe, Int.reduceBEq, Int.reduceBNe, Int.reduceToNat, Int.reduceGT, Int.reduceGE, ↓reduceIte, decide_true, decide_false, eq_self, Nat.mul_one, Nat.zero_mul, Nat.one_mul, Int.le_refl, Nat.le_refl, Int.cast_ofNat_Int, hz, hM, Int.add_zero]
    · refine pwpC_loopU (A := { j : Nat // j ≤ x.shade.length }) [3, 4, 6] (fun j => [(10, .t (.int .i64 j.1)), (9, .t (.int .i64 (M + shL x set j.1)))]) (fun _ => []) (fun j => x.shade.length - j.1) ⟨0, by omega⟩ (by decide) (fun _ => by rfl) ?_ fun Q1 hQ1 ⟨j, hj⟩ I1 hI1 => ?_
      · simp (decide := true) (maxSteps := 4000000) only [go_sem, Nat.reduceAdd, Nat.reduceSub, Nat.reduceMul, Nat.reduceDiv, Nat.reduceMod, Nat.reduceLT, Nat.reduceLeDiff, Nat.reduceEqDiff, Nat.reduceBEq, Nat.reduceBNe, Nat.reduceGT, Int.reduceAdd, Int.reduceSub, Int.reduceMul, Int.reduceNeg, Int.reduceLT, Int.reduceLE, Int.reduceEq, Int.reduceNe, Int.reduceBEq, Int.reduceBNe, Int.reduceToNat, Int.reduceGT, Int.reduceGE, ↓reduceIte, decide_true, decide_false, eq_self, Nat.mul_one, Nat.zero_mul, Nat.one_mul, Int.le_refl, Nat.le_refl, Int.cast_ofNat_Int, shL, List.range_zero, List.foldl_nil, Int.add_zero, hM]
      · by_cases hlt : (j : Int) < x.shade.length
        · obtain ⟨s, hs⟩ := get_lt hlt
          have hds' := flat_at Span.cs (n := 2) (fun _ => rfl) hs
          have hc1 : IntKind.i64.wrap (j + 1) = ((j + 1 : Nat) : Int) := by rw [wrap_in (by omega) (by omega)]; omega
          have hes := atS_eq hs
          have hsb := h.shade s (List.mem_of_getElem? hs)
          have hnx := shL_succ x set j
          rw [hes] at hnx
          have hlj := hsl j hj
          have k64 : (0 : Int) ≤ j ∧ (j : Int) < 64 := by omega
          have s0 : (0 : Int) ≤ set := by omega
          have wj : IntKind.i64.wrap (M + shL x set j + s.lo) = M + (shL x set j + s.lo) := by rw [wrap_in (by omega) (by omega)]; omega
          cases hb : set.testBit j with
          | false =>
            rw [hb] at hnx
            simp (decide := true) (maxSteps := 4000000) only [go_sem, Nat.reduceAdd, Nat.reduceSub, Nat.reduceMul, Nat.reduceDiv, Nat.reduceMod, Nat.reduceLT, Nat.reduceLeDiff, Nat.reduceEqDiff, Nat.reduceBEq, Nat.reduceBNe, Nat.reduceGT, Int.reduceAdd, Int.reduceSub, Int.reduceMul, Int.reduceNeg, Int.reduceLT, Int.reduceLE, Int.reduceEq, Int.reduceNe, Int.reduceBEq, Int.reduceBNe, Int.reduceToNat, Int.reduceGT, Int.reduceGE, ↓reduceIte, decide_true, decide_false, eq_self, Nat.mul_one, Nat.zero_mul, Nat.one_mul, Int.le_refl, Nat.le_refl, Int.cast_ofNat_Int, hlt, hds', Span.cs, Int.toNat_natCast, k64, s0, hb, Sx.cs]
            refine hI1 _ ⟨j + 1, by omega⟩ (by simp only; omega) ?_
            simp (decide := true) (maxSteps := 4000000) only [go_sem, Nat.reduceAdd, Nat.reduceSub, Nat.reduceMul, Nat.reduceDiv, Nat.reduceMod, Nat.reduceLT, Nat.reduceLeDiff, Nat.reduceEqDiff, Nat.reduceBEq, Nat.reduceBNe, Nat.reduceGT, Int.reduceAdd, Int.reduceSub, Int.reduceMul, Int.reduceNeg, Int.reduceLT, Int.reduceLE, Int.reduceEq, Int.reduceNe, Int.reduceBEq, Int.reduceBNe, Int.reduceToNat, Int.reduceGT, Int.reduceGE, ↓reduceIte, decide_true, decide_false, eq_self, Nat.mul_one, Nat.zero_mul, Nat.one_mul, Int.le_refl, Nat.le_refl, Int.cast_ofNat_Int, hc1, hnx, Sx.cs, Span.cs]
          | true =>
            rw [hb] at hnx
            simp (decide := true) (maxSteps := 4000000) only [go_sem, Nat.reduceAdd, Nat.reduceSub, Nat.reduceMul, Nat.reduceDiv, Nat.reduceMod, Nat.reduceLT, Nat.reduceLeDiff, Nat.reduceEqDiff, Nat.reduceBEq, Nat.reduceBNe, Nat.reduceGT, Int.reduceAdd, Int.reduceSub, Int.reduceMul, Int.reduceNeg, Int.reduceLT, Int.reduceLE, Int.reduceEq, Int.reduceNe, Int.reduceBEq, Int.reduceBNe, Int.reduceToNat, Int.reduceGT, Int.reduceGE, ↓reduceIte, decide_true, decide_false, eq_self, Nat.mul_one, Nat.zero_mul, Nat.one_mul, Int.le_refl, Nat.le_refl, Int.cast_ofNat_Int, hlt, hds', Span.cs, Int.toNat_natCast, k64, s0, hb, wj, Sx.cs]
            refine hI1 _ ⟨j + 1, by omega⟩ (by simp only; omega) ?_
            simp (decide := true) (maxSteps := 4000000) only [go_sem, Nat.reduceAdd, Nat.reduceSub, Nat.reduceMul, Nat.reduceDiv, Nat.reduceMod, Nat.reduceLT, Nat.reduceLeDiff, Nat.reduceEqDiff, Nat.reduceBEq, Nat.reduceBNe, Nat.reduceGT, Int.reduceAdd, Int.reduceSub, Int.reduceMul, Int.reduceNeg, Int.reduceLT, Int.reduceLE, Int.reduceEq, Int.reduceNe, Int.reduceBEq, Int.reduceBNe, Int.reduceToNat, Int.reduceGT, Int.reduceGE, ↓reduceIte, decide_true, decide_false, eq_self, Nat.mul_one, Nat.zero_mul, Nat.one_mul, Int.le_refl, Nat.le_refl, Int.cast_ofNat_Int, hc1, hnx, Sx.cs, Span.cs]
        · have hje : j = x.shade.length := by omega
          subst hje
          simp (decide := true) (maxSteps := 4000000) only [go_sem, Nat.reduceAdd, Nat.reduceSub, Nat.reduceMul, Nat.reduceDiv, Nat.reduceMod, Nat.reduceLT, Nat.reduceLeDiff, Nat.reduceEqDiff, Nat.reduceBEq, Nat.reduceBNe, Nat.reduceGT, Int.reduceAdd, Int.reduceSub, Int.reduceMul, Int.reduceNeg, Int.reduceLT, Int.reduceLE, Int.reduceEq, Int.reduceNe, Int.reduceBEq, Int.reduceBNe, Int.reduceToNat, Int.reduceGT, Int.reduceGE, ↓reduceIte, decide_true, decide_false, eq_self, Nat.mul_one, Nat.zero_mul, Nat.one_mul, Int.le_refl, Nat.le_refl, Int.cast_ofNat_Int, hlt]
          refine hQ1 _ _ ?_
          simp (decide := true) (maxSteps := 4000000) only [go_sem, Nat.reduceAdd, Nat.reduceSub, Nat.reduceMul, Nat.reduceDiv, Nat.reduceMod, Nat.reduceLT, Nat.reduceLeDiff, Nat.reduceEqDiff, Nat.reduceBEq, Nat.reduceBNe, Nat.reduceGT, Int.reduceAdd, Int.reduceSub, Int.reduceMul, Int.reduceNeg, Int.reduceLT, Int.reduceLE, Int.reduceEq, Int.reduceNe, Int.reduceBEq, Int.reduceBNe, Int.reduceToNat, Int.reduceGT, Int.reduceGE, ↓reduceIte, decide_true, decide_false, eq_self, Nat.mul_one, Nat.zero_mul, Nat.one_mul, Int.le_refl, Nat.le_refl, Int.cast_ofNat_Int]
theorem oAngleI_c (x : Sx) {sT sS : TV} (hT : IsRow Span.cs sT x.tab) (hS : IsRow Span.cs sS x.shade) (hv : sxOk x = true) {a s w : Int} (ha : 0 ≤ a) (ha3 : a ≤ last x) (hs : 0 ≤ s) (hw : -60 ≤ w ∧ w ≤ 60) : PCalls Try.prog 36 [x.t sT sS, .agg [.int .i64 a, .int .i64 s], .int .i64 w] (.int .i64 (angleV x a s.toNat w)) := by
  have := oAngle_c x hT hS hv a ha ha3 s.toNat w hw
  rwa [Int.toNat_of_nonneg hs] at this
noncomputable def xoAngle : List TV → Option TV
  | [.agg [.int .i64 a0, sT, .int .i64 a1, .int .i64 a2, .int .i64 a3, sS], .agg [.int .i64 p, .int .i64 q], .int .i64 w] => match rowL unS sT, rowL unS sS with
    | some tab, some shade => if sxOk (⟨a0, tab, ⟨a1, a2⟩, a3, shade⟩ : Sx) = true ∧ 0 ≤ p ∧ p ≤ last (⟨a0, tab, ⟨a1, a2⟩, a3, shade⟩ : Sx) ∧ 0 ≤ q ∧ -60 ≤ w ∧ w ≤ 60 then some (.int .i64 (angleV (⟨a0, tab, ⟨a1, a2⟩, a3, shade⟩ : Sx) p q.toNat w)) else none
    | _, _ => none
  | _ => none
theorem xoAngle_ok : ∀ xs r, xoAngle xs = some r → PCalls Try.prog 36 xs r := by
  intro xs r h
  unfold xoAngle at h
  split at h
  · split at h
    · rename_i tab shade hT hS
      have hT := rowL_some (un := unS) unS_nil (@unS_some) hT
      have hS := rowL_some (un := unS) unS_nil (@unS_some) hS
      split at h
      · rename_i hc; cases h; exact oAngleI_c ⟨_, tab, ⟨_, _⟩, _, shade⟩ hT hS hc.1 hc.2.1 hc.2.2.1 hc.2.2.2.1 hc.2.2.2.2
      · cases h
    · cases h
  · cases h
attribute [go_sem] xoAngle
end Go.Proofs.Ytjmkccckohcfkaa

/- Part Oc. -/
namespace Go.Os
open Go Go.Pm Go.Oc Go.Oh
theorem sh_mid {x : Sx} (h : GoodS x) (bits : List Int) (set : Nat) : ∀ k, k ≤ x.shade.length → (shTo x set k).lo + x.wrong ≤ shL (truthX x bits) set k ∧ shL (truthX x bits) set k ≤ (shTo x set k).hi - x.wrong
  | 0, _ => by simp only [shTo, shL, List.range_zero, List.foldl_nil]; omega
  | k + 1, hk => by
    have ih := sh_mid h bits set k (by omega)
    have hs := h.shade _ (atS_mem (show k < x.shade.length by omega))
    have e : atS (truthX x bits).shade k = tCh bits (atS x.shade k) (2 * (k : Int) + 1) := tSh_at (by omega)
    have hc := tCh_in bits (2 * (k : Int) + 1) hs.2.1
    rw [shTo_succ, shL_succ, e]
    split
    · simp only [addS]; omega
    · omega
theorem corr_mid {x : Sx} (h : GoodS x) (bits : List Int) {a : Int} (h0 : 0 ≤ a) (h1 : a ≤ last x) : (corr x.step x.tab a).lo ≤ (corr x.step (truthX x bits).tab a).lo ∧ (corr x.step (truthX x bits).tab a).lo ≤ (corr x.step x.tab a).hi := by
  have ht := rd_tab h h0 h1
  have e : ∀ k, k < x.tab.length → atS (truthX x bits).tab k = tCh bits (atS x.tab k) k := fun k hk => tTab_at hk
  have g := h.tab _ (atS_mem ht.kn)
  have c := tCh_in bits (((a / x.step).toNat : Nat) : Int) g.2.1
  unfold corr
  simp only
  rw [e _ ht.kn]
  split
  · omega
  · rename_i hd
    have hk1 := ht.kd hd
    have g1 := h.tab _ (atS_mem hk1)
    have c1 := tCh_in bits (((a / x.step).toNat + 1 : Nat) : Int) g1.2.1
    rw [e _ hk1]
    exact ⟨mid_le c.1.1 c1.1.1 ⟨ht.d0, ht.ds⟩, mid_le c.1.2 c1.1.2 ⟨ht.d0, ht.ds⟩⟩
/-- The true angle lies in what is read. -/
theorem angle_in {x : Sx} (h : GoodS x) (bits : List Int) {a : Int} (h0 : 0 ≤ a) (h1 : a ≤ last x) (set : Nat) {w : Int} (hw : -x.wrong ≤ w ∧ w ≤ x.wrong) : inB (angleV (truthX x bits) a set w) (readS x a set).lo (readS x a set).hi = true := by
  have hc := corr_mid h bits h0 h1
  have hs := sh_mid h bits set x.shade.length (Nat.le_refl _)
  have hi := h.idx
  have ci := tCh_in bits 7 hi.2.1
  have e1 : (truthX x bits).idx = tCh bits x.idx 7 := rfl
  have e2 : (truthX x bits).step = x.step := rfl
  have e3 : (truthX x bits).shade.length = x.shade.length := tSh_len _ _ _
  rw [inB_iff]
  unfold angleV readS shs
  rw [e1, e2, e3]
  simp only [addS]
  omega
end Go.Os
namespace Go.Proofs.Ytjmkccckohcfkaa
open Go.RowKit Go.Pm Go.Oc Go.Oh Go.Os
set_option maxRecDepth 100000
set_option linter.unusedVariables false
set_option maxHeartbeats 4000000

noncomputable def xoTruth : List TV → Option TV
  | [.agg [.int .i64 a0, sT, .int .i64 a1, .int .i64 a2, .int .i64 a3, sS], s] => match rowL unS sT, rowL unS sS, rowL unI s with
    | some tab, some shade, some l => if sxOk ⟨a0, tab, ⟨a1, a2⟩, a3, shade⟩ = true ∧ l.length ≤ 17592186044415 then some ((truthX ⟨a0, tab, ⟨a1, a2⟩, a3, shade⟩ l).t (rowO (tTab ⟨a0, tab, ⟨a1, a2⟩, a3, shade⟩ l tab.length)) (rowO (tSh ⟨a0, tab, ⟨a1, a2⟩, a3, shade⟩ l shade.length))) else none
    | _, _, _ => none
  | _ => none
theorem xoTruth_ok : ∀ xs r, xoTruth xs = some r → PCalls Try.prog 34 xs r := by
  intro xs r h
  unfold xoTruth at h
  split at h
  · split at h
    · rename_i tab shade l hT hS hl
      have hT := rowL_some (un := unS) unS_nil (@unS_some) hT
      have hS := rowL_some (un := unS) unS_nil (@unS_some) hS
      have hl := rowL_some (un := unI) unI_nil (@unI_some) hl
      split at h
      · rename_i hc; cases h
        exact oTruth_c ⟨_, tab, ⟨_, _⟩, _, shade⟩ hT hS hc.1 hl hc.2
      · cases h
    · cases h
  · cases h
attribute [go_sem] xoTruth
noncomputable def spOc2 : Pm.Spec := ((spO5.one 32 xoSound).one 34 xoTruth).one 36 xoAngle
@[go_sem] theorem spOc2_p (f : FuncId) (xs : List TV) : spOc2.p f xs = Pm.Spec.p (((spO5.one 32 xoSound).one 34 xoTruth).one 36 xoAngle) f xs := rfl
@[go_sem] theorem spOc2_h (f : FuncId) (ps : List PV) (hl : List PO) : spOc2.h f ps hl = Pm.Spec.h (((spO5.one 32 xoSound).one 34 xoTruth).one 36 xoAngle) f ps hl := rfl
@[go_sem] theorem spOc2_fz (f : FuncId) : spOc2.fz f = Pm.Spec.fz (((spO5.one 32 xoSound).one 34 xoTruth).one 36 xoAngle) f := rfl
@[go_sem] theorem spOc2_fr (f : FuncId) : spOc2.fr f = Pm.Spec.fr (((spO5.one 32 xoSound).one 34 xoTruth).one 36 xoAngle) f := rfl
@[go_sem] theorem spOc2_mu (t : TypeId) : spOc2.mu t = Pm.Spec.mu (((spO5.one 32 xoSound).one 34 xoTruth).one 36 xoAngle) t := rfl
@[go_sem] theorem spOc2_nf (t : TypeId) : spOc2.nf t = Pm.Spec.nf (((spO5.one 32 xoSound).one 34 xoTruth).one 36 xoAngle) t := rfl
theorem spOc2_ok : SpecOk Try.prog spOc2 := Spec.one_ok xoAngle_ok (Spec.one_ok xoTruth_ok (Spec.one_ok xoSound_ok spO5_ok))
theorem SextantHolds_c (x : Sx) {sT sS : TV} (hT : IsRow Span.cs sT x.tab) (hS : IsRow Span.cs sS x.shade) (lT : x.tab.length ≤ 9000000000000) (lS : x.shade.length ≤ 9000000000000) (a s : Int) {bits : List Int} {u : TV} (hb : IsRow ic u bits) (lb : bits.length ≤ 17592186044415) (_ : ∀ n ∈ bits, -9223372036854775808 ≤ n ∧ n ≤ 9223372036854775807) : PCalls Try.prog 7 [x.t sT sS, .agg [.int .i64 a, .int .i64 s], u] (.bool true) := by
  have rT := rowS_is hT
  have rS := rowS_is hS
  have rI := rowI_is hb
  unfold rowL at rT rS rI
  simp only [unS_nil] at rT rS
  simp only [unI_nil] at rI
  have e0 : Sx.mk x.step x.tab ⟨x.idx.lo, x.idx.hi⟩ x.wrong x.shade = x := rfl
  refine pcalls_by Try.mixes spOc2_ok (fn := Try.f7) Try.func7 rfl (by kernel_rfl) (by show 3 ≤ _; decide) ?_
  cases hv : sxOk x with
  | false =>
    have hR : readP x a s = (⟨0, 0⟩, 50) := by unfold readP; rw [hv]; rfl
    have b : ((50 : Int) != 0) = true := rfl
    rcases hT with ⟨rfl, hT⟩ | ⟨f, rfl⟩
    · have eT : ∀ l : List Span, x.tab = l → Sx.mk x.step l ⟨x.idx.lo, x.idx.hi⟩ x.wrong x.shade = x := fun l hl => by rw [← hl]
      have z : ([] : List Span).length ≤ 9000000000000 := by simp
      simp (decide := true) (maxSteps := 4000000) only [go_sem, Nat.reduceAdd, Nat.reduceSub, Nat.reduceMul, Nat.reduceDiv, Nat.reduceMod, Nat.reduceLT, Nat.reduceLeDiff, Nat.reduceEqDiff, Nat.reduceBEq, Nat.reduceBNe, Nat.reduceGT, Int.reduceAdd, Int.reduceSub, Int.reduceMul, Int.reduceNeg, Int.reduceLT, Int.reduceLE, Int.reduceEq, Int.reduceNe, Int.reduceBEq, Int.reduceBNe, Int.reduceToNat, Int.reduceGT, Int.reduceGE, ↓reduceIte, decide_true, decide_false, eq_self, Nat.mul_one, Nat.zero_mul, Nat.one_mul, Int.le_refl, Nat.le_refl, Int.cast_ofNat_Int, Try.f7, Sx.t, Sx.cs, unS_nil, rS, z, lS, eT [] hT, hv, hR, b, Span.t, Span.cs, Bool.true_or]
      done
    · simp (decide := true) (maxSteps := 4000000) only [go_sem, Nat.reduceAdd, Nat.reduceSub, Nat.reduceMul, Nat.reduceDiv, Nat.reduceMod, Nat.reduceLT, Nat.reduceLeDiff, Nat.reduceEqDiff, Nat.reduceBEq, Nat.reduceBNe, Nat.reduceGT, Int.reduceAdd, Int.reduceSub, Int.reduceMul, Int.reduceNeg, Int.reduceLT, Int.reduceLE, Int.reduceEq, Int.reduceNe, Int.reduceBEq, Int.reduceBNe, Int.reduceToNat, Int.reduceGT, Int.reduceGE, ↓reduceIte, decide_true, decide_false, eq_self, Nat.mul_one, Nat.zero_mul, Nat.one_mul, Int.le_refl, Nat.le_refl, Int.cast_ofNat_Int, Try.f7, Sx.t, Sx.cs, unS_eq, rS, lT, lS, e0, hv, hR, b, Span.t, Span.cs, Bool.true_or]
      done
  | true =>
    have h := sxOk_iff.1 hv
    obtain ⟨f, rfl⟩ := good_T h hT
    have rT := unS_eq x.tab
    have hlw := last_wr' h
    cases hr : isRd x a s with
    | false =>
      have hR : readP x a s = (⟨0, 0⟩, 51) := by unfold readP; rw [hv, hr]; rfl
      have b : ((51 : Int) != 0) = true := rfl
      simp (decide := true) (maxSteps := 4000000) only [go_sem, Nat.reduceAdd, Nat.reduceSub, Nat.reduceMul, Nat.reduceDiv, Nat.reduceMod, Nat.reduceLT, Nat.reduceLeDiff, Nat.reduceEqDiff, Nat.reduceBEq, Nat.reduceBNe, Nat.reduceGT, Int.reduceAdd, Int.reduceSub, Int.reduceMul, Int.reduceNeg, Int.reduceLT, Int.reduceLE, Int.reduceEq, Int.reduceNe, Int.reduceBEq, Int.reduceBNe, Int.reduceToNat, Int.reduceGT, Int.reduceGE, ↓reduceIte, decide_true, decide_false, eq_self, Nat.mul_one, Nat.zero_mul, Nat.one_mul, Int.le_refl, Nat.le_refl, Int.cast_ofNat_Int, Try.f7, Sx.t, Sx.cs, rT, rS, lT, lS, e0, hv, hR, b, Span.t, Span.cs, Bool.true_or]
      done
    | true =>
      obtain ⟨⟨ha0, ha1⟩, hs0, _⟩ := isRd_iff.1 hr
      obtain ⟨R, hRS⟩ : ∃ R, readS x a s.toNat = R := ⟨_, rfl⟩
      have hR : readP x a s = (R, 0) := by unfold readP; rw [hv, hr, ← hRS]; rfl
      have b : ((0 : Int) != 0) = false := rfl
      have hin : inB a 0 (last x) = true := inB_iff.2 ⟨ha0, ha1⟩
      have hwr := h.wr
      have w0 : IntKind.i64.wrap (0 - x.wrong) = -x.wrong := by rw [wrap_in (by omega) (by omega)]; omega
      have hch := chosen_mem (pickI bits 5) (show -x.wrong ≤ x.wrong by omega)
      obtain ⟨W, hW⟩ : ∃ W, chosen (-x.wrong) x.wrong (pickI bits 5) = W := ⟨_, rfl⟩
      rw [hW] at hch
      have hg := truth_good h bits
      have hvt := sxOk_iff.2 hg
      have hai := angle_in h bits ha0 ha1 s.toNat hch
      rw [hRS] at hai
      have r1 := rowS_is (rowO_is (tTab x bits x.tab.length))
      have r2 := rowS_is (rowO_is (tSh x bits x.shade.length))
      unfold rowL at r1 r2
      simp only [unS_nil] at r1 r2
      have et : Sx.mk (truthX x bits).step (tTab x bits x.tab.length) ⟨(truthX x bits).idx.lo, (truthX x bits).idx.hi⟩ (truthX x bits).wrong (tSh x bits x.shade.length) = truthX x bits := rfl
      have hlt : last (truthX x bits) = last x := by
        show x.step * ((tTab x bits x.tab.length).length - 1) = _
        rw [tTab_len]; rfl
      have c60 : -60 ≤ W ∧ W ≤ 60 := by omega
      have lb' : bits.length ≤ 9223372036854775806 := by omega
      have i1 : -9223372036854775808 ≤ -x.wrong ∧ -x.wrong ≤ 9223372036854775807 := by omega
      have i2 : -9223372036854775808 ≤ x.wrong ∧ x.wrong ≤ 9223372036854775807 := by omega
      simp (decide := true) (maxSteps := 4000000) only [go_sem, Nat.reduceAdd, Nat.reduceSub, Nat.reduceMul, Nat.reduceDiv, Nat.reduceMod, Nat.reduceLT, Nat.reduceLeDiff, Nat.reduceEqDiff, Nat.reduceBEq, Nat.reduceBNe, Nat.reduceGT, Int.reduceAdd, Int.reduceSub, Int.reduceMul, Int.reduceNeg, Int.reduceLT, Int.reduceLE, Int.reduceEq, Int.reduceNe, Int.reduceBEq, Int.reduceBNe, Int.reduceToNat, Int.reduceGT, Int.reduceGE, ↓reduceIte, decide_true, decide_false, eq_self, Nat.mul_one, Nat.zero_mul, Nat.one_mul, Int.le_refl, Nat.le_refl, Int.cast_ofNat_Int, Try.f7, Sx.t, Sx.cs, rT, rS, rI, lT, lS, e0, hv, hR, b, Span.t, Span.cs, hlw, hin, lb, lb', w0, i1, i2, hW, r1, r2, et, hvt, hlt, ha0, ha1, hs0, c60, hai, Bool.false_or, Bool.and_self, Bool.true_and, Bool.not_true]
      done
end Go.Proofs.Ytjmkccckohcfkaa

/- Part Oh. -/
namespace Go.Os
open Go Go.Pm Go.Oc Go.Oh
theorem readE_at {x : Sx} (h : GoodS x) {k : Nat} (hk : k < x.tab.length) : isRd x ((k : Int) * x.step) (2 ^ x.shade.length - 1) = true ∧ (readS x ((k : Int) * x.step) (2 ^ x.shade.length - 1 : Int).toNat).hi - (readS x ((k : Int) * x.step) (2 ^ x.shade.length - 1 : Int).toNat).lo = wid (atS x.tab k) + rest x := by
  obtain ⟨a1, a2, a3⟩ := at_b h hk
  have hp := pow_len h.sh
  refine ⟨isRd_iff.2 ⟨⟨a1, a2⟩, by omega, Int.le_refl _⟩, ?_⟩
  have e : (2 ^ x.shade.length - 1 : Int).toNat = allSh x := by
    have : ((2 ^ x.shade.length : Nat) : Int) = (2 : Int) ^ x.shade.length := by simp
    unfold allSh; omega
  rw [e]
  unfold readS rest wid
  rw [corr_at h hk]
  simp only [addS]; omega
theorem flt_le (x : Sx) : ∀ n k, k < n → wid (atS x.tab k) ≤ fltTo x n
  | 0, k, h => by omega
  | n + 1, k, h => by
    rw [fltTo_succ]
    by_cases e : k = n
    · subst e; omega
    · have := flt_le x n k (by omega); omega
theorem flt_met {x : Sx} (h : GoodS x) : ∀ n, 1 ≤ n → n ≤ x.tab.length → ∃ k, k < n ∧ wid (atS x.tab k) = fltTo x n
  | 0, h1, _ => by omega
  | n + 1, _, hn => by
    have ht := h.tab _ (atS_mem (show n < x.tab.length by omega))
    have hw : 0 ≤ wid (atS x.tab n) := by unfold wid; omega
    rw [fltTo_succ]
    rcases Nat.eq_zero_or_pos n with e | e
    · subst e
      refine ⟨0, by omega, ?_⟩
      simp only [fltTo, List.range_zero, List.foldl_nil]; omega
    · obtain ⟨k, hk, hw'⟩ := flt_met h n (by omega) (by omega)
      by_cases c : fltTo x n ≤ wid (atS x.tab n)
      · exact ⟨n, by omega, by omega⟩
      · exact ⟨k, by omega, by omega⟩
/-- Between two angles of the table no correction is wider than the wider one. -/
theorem corr_wid {x : Sx} (h : GoodS x) {a : Int} (h0 : 0 ≤ a) (h1 : a ≤ last x) : wid (corr x.step x.tab a) ≤ fltTo x x.tab.length := by
  have ht := rd_tab h h0 h1
  have w1 := flt_le x x.tab.length _ ht.kn
  unfold corr
  simp only
  split
  · exact w1
  · rename_i hd
    have w2 := flt_le x x.tab.length _ (ht.kd hd)
    have hs := h.st
    have d0 := ht.d0
    have d1 := ht.ds
    obtain ⟨W, hW⟩ : ∃ W, fltTo x x.tab.length = W := ⟨_, rfl⟩
    obtain ⟨A, hA⟩ : ∃ A, atS x.tab (a / x.step).toNat = A := ⟨_, rfl⟩
    obtain ⟨B, hB⟩ : ∃ B, atS x.tab ((a / x.step).toNat + 1) = B := ⟨_, rfl⟩
    obtain ⟨d, hd'⟩ : ∃ d, a % x.step = d := ⟨_, rfl⟩
    obtain ⟨st, hst⟩ : ∃ st, x.step = st := ⟨_, rfl⟩
    rw [hW, hA] at w1
    rw [hW, hB] at w2
    rw [hW, hA, hB]
    rw [hd'] at d0 d1 ⊢
    rw [hst] at hs d1 ⊢
    unfold wid at w1 w2 ⊢
    simp only
    have m1 := Int.mul_le_mul_of_nonneg_right (show A.hi ≤ A.lo + W by omega) (show 0 ≤ st - d by omega)
    have m2 := Int.mul_le_mul_of_nonneg_right (show B.hi ≤ B.lo + W by omega) d0
    have e1 : (A.lo + W) * (st - d) + (B.lo + W) * d = A.lo * (st - d) + B.lo * d + W * st := by
      rw [Int.add_mul, Int.add_mul]
      have : W * (st - d) + W * d = W * st := by rw [← Int.mul_add]; congr 1; omega
      omega
    have := Int.ediv_le_ediv (show 0 < st by omega) (show A.hi * (st - d) + B.hi * d ≤ A.lo * (st - d) + B.lo * d + W * st by omega)
    rw [Int.add_mul_ediv_right _ _ (show st ≠ 0 by omega)] at this
    omega
theorem sh_wid {x : Sx} (h : GoodS x) (set : Nat) : ∀ k, k ≤ x.shade.length → wid (shTo x set k) ≤ wid (shTo x (allSh x) k)
  | 0, _ => Int.le_refl _
  | k + 1, hk => by
    have ih := sh_wid h set k (by omega)
    have hs := h.shade _ (atS_mem (show k < x.shade.length by omega))
    have hb : (allSh x).testBit k = true := by
      unfold allSh; rw [Nat.testBit_two_pow_sub_one]; exact decide_eq_true (by omega)
    rw [shTo_succ, shTo_succ, hb, if_pos rfl]
    unfold wid at ih ⊢
    split <;> simp only [addS] <;> omega
/-- No reading leaves more than the fault. -/
theorem read_wid {x : Sx} (h : GoodS x) {a : Int} (h0 : 0 ≤ a) (h1 : a ≤ last x) (set : Nat) : (readS x a set).hi - (readS x a set).lo ≤ fault x := by
  have c := corr_wid h h0 h1
  have s := sh_wid h set x.shade.length (Nat.le_refl _)
  have e1 : wid (shTo x set x.shade.length) = (shs x set).hi - (shs x set).lo := rfl
  have e2 : wid (shTo x (allSh x) x.shade.length) = (shs x (allSh x)).hi - (shs x (allSh x)).lo := rfl
  rw [e1, e2] at s
  unfold fault rest
  unfold wid at c ⊢
  unfold readS
  simp only [addS]
  omega
theorem read_ge {x : Sx} (h : GoodS x) {a : Int} (h0 : 0 ≤ a) (h1 : a ≤ last x) (set : Nat) : -10000000 ≤ (readS x a set).lo ∧ (readS x a set).lo ≤ 10000000 ∧ -10000000 ≤ (readS x a set).hi ∧ (readS x a set).hi ≤ 10000000 := by
  have hb := corr_b (rd_tab h h0 h1) h.tab
  have hs := shs_b h set
  have hi := h.idx
  have hl := last_b h
  unfold readS; simp only [addS]; omega
theorem orN : ∀ a b : Bool, (a || !a && b) = (a || b) := by decide
def metB (x : Sx) (k : Nat) : Bool := (List.range k).any fun j => wid (atS x.tab j) == fltTo x x.tab.length
theorem metB_succ (x : Sx) (k : Nat) : metB x (k + 1) = (metB x k || (wid (atS x.tab k) == fltTo x x.tab.length)) := by unfold metB; rw [List.range_succ, List.any_append]; simp
theorem metB_all {x : Sx} (h : GoodS x) : metB x x.tab.length = true := by
  obtain ⟨k, hk, e⟩ := flt_met h x.tab.length (by have := h.len; omega) (Nat.le_refl _)
  unfold metB
  rw [List.any_eq_true]
  exact ⟨k, List.mem_range.2 hk, by rw [e]; simp⟩
end Go.Os
namespace Go.Proofs.Ytjmkccckohcfkaa
open Go.RowKit Go.Pm Go.Oc Go.Oh Go.Os
set_option maxRecDepth 100000
set_option linter.unusedVariables false
set_option maxHeartbeats 4000000

noncomputable def spOh : Pm.Spec := spO5.one 32 xoSound
@[go_sem] theorem spOh_p (f : FuncId) (xs : List TV) : spOh.p f xs = Pm.Spec.p (spO5.one 32 xoSound) f xs := rfl
@[go_sem] theorem spOh_h (f : FuncId) (ps : List PV) (hl : List PO) : spOh.h f ps hl = Pm.Spec.h (spO5.one 32 xoSound) f ps hl := rfl
@[go_sem] theorem spOh_fz (f : FuncId) : spOh.fz f = Pm.Spec.fz (spO5.one 32 xoSound) f := rfl
@[go_sem] theorem spOh_fr (f : FuncId) : spOh.fr f = Pm.Spec.fr (spO5.one 32 xoSound) f := rfl
@[go_sem] theorem spOh_mu (t : TypeId) : spOh.mu t = Pm.Spec.mu (spO5.one 32 xoSound) t := rfl
@[go_sem] theorem spOh_nf (t : TypeId) : spOh.nf t = Pm.Spec.nf (spO5.one 32 xoSound) t := rfl
theorem spOh_ok : SpecOk Try.prog spOh := Spec.one_ok xoSound_ok spO5_ok
theorem SextantGraded_c (x : Sx) {sT sS : TV} (hT : IsRow Span.cs sT x.tab) (hS : IsRow Span.cs sS x.shade) (lT : x.tab.length ≤ 9000000000000) (lS : x.shade.length ≤ 9000000000000) (a s : Int) : PCalls Try.prog 12 [x.t sT sS, .agg [.int .i64 a, .int .i64 s]] (.bool true) := by
  have rT := rowS_is hT
  have rS := rowS_is hS
  unfold rowL at rT rS
  simp only [unS_nil] at rT rS
  have e0 : Sx.mk x.step x.tab ⟨x.idx.lo, x.idx.hi⟩ x.wrong x.shade = x := rfl
  refine pcalls_by Try.mixes spOh_ok (fn := Try.f12) Try.func12 rfl (by kernel_rfl) (by show 2 ≤ _; decide) ?_
  cases hv : sxOk x with
  | false =>
    have hR : readP x a s = (⟨0, 0⟩, 50) := by unfold readP; rw [hv]; rfl
    have hC : classP x = (0, 0, 50) := by unfold classP; rw [hv]; rfl
    have b : ((50 : Int) != 0) = true := rfl
    simp (decide := true) (maxSteps := 4000000) only [go_sem, Nat.reduceAdd, Nat.reduceSub, Nat.reduceMul, Nat.reduceDiv, Nat.reduceMod, Nat.reduceLT, Nat.reduceLeDiff, Nat.reduceEqDiff, Nat.reduceBEq, Nat.reduceBNe, Nat.reduceGT, Int.reduceAdd, Int.reduceSub, Int.reduceMul, Int.reduceNeg, Int.reduceLT, Int.reduceLE, Int.reduceEq, Int.reduceNe, Int.reduceBEq, Int.reduceBNe, Int.reduceToNat, Int.reduceGT, Int.reduceGE, ↓reduceIte, decide_true, decide_false, eq_self, Nat.mul_one, Nat.zero_mul, Nat.one_mul, Int.le_refl, Nat.le_refl, Int.cast_ofNat_Int, Try.f12, Sx.t, Sx.cs, rT, rS, lT, lS, e0, hR, hC, hv, b, Span.t, Span.cs, Bool.true_or, beq_self_eq_true, Bool.and_self]
  | true =>
    have h := sxOk_iff.1 hv
    have h6 := h.sh
    have hp := pow_len h6
    have hlen := h.len
    obtain ⟨f, rfl⟩ := good_T h hT
    have rT := unS_eq x.tab
    have hC : classP x = (classOf (fault x), fault x, 0) := by unfold classP; rw [if_pos hv]
    have b : ((0 : Int) != 0) = false := rfl
    have b0 : ((0 : Int) == 0) = true := rfl
    have hfb := fltTo_b h x.tab.length (Nat.le_refl _)
    have hrb := rest_b h
    have hfa : fault x = fltTo x x.tab.length + rest x := rfl
    obtain ⟨P2, hP2⟩ : ∃ P2 : Int, (2 : Int) ^ x.shade.length = P2 := ⟨_, rfl⟩
    rw [hP2] at hp
    have hsh : IntKind.i64.wrap (1 * 2 ^ min x.shade.length 64) = P2 := by rw [Nat.min_eq_left (by omega), Int.one_mul, hP2, wrap_in (by omega) (by omega)]
    have w1 : IntKind.i64.wrap (P2 - 1) = P2 - 1 := wrap_in (by omega) (by omega)
    have hl0 : ¬ (x.shade.length : Int) < 0 := by omega
    obtain ⟨FA, hFA⟩ : ∃ FA, fault x = FA := ⟨_, rfl⟩
    have hlast : ((classOf FA == 1) == decide (FA ≤ 40)) = true ∧ ((classOf FA == 3) == decide (FA > 200)) = true ∧ inB (classOf FA) 1 3 = true := by
      unfold classOf
      by_cases c1 : FA ≤ 40
      · rw [if_pos c1, decide_eq_true c1, decide_eq_false (show ¬ FA > 200 by omega)]; decide
      · by_cases c2 : FA ≤ 200
        · rw [if_neg c1, if_pos c2, decide_eq_false c1, decide_eq_false (show ¬ FA > 200 by omega)]; decide
        · rw [if_neg c1, if_neg c2, decide_eq_false c1, decide_eq_true (show FA > 200 by omega)]; decide
    obtain ⟨CL, hCL⟩ : ∃ CL, classOf FA = CL := ⟨_, rfl⟩
    rw [hFA, hCL] at hC
    rw [hCL] at hlast
    obtain ⟨la1, la2, la3⟩ := hlast
    have hmet := metB_all h
    obtain ⟨R, hRR⟩ : ∃ R, readP x a s = R := ⟨_, rfl⟩
    have hcase : (R.2 == 0 && decide (IntKind.i64.wrap (R.1.hi - R.1.lo) > FA)) = false := by
      rw [← hRR]
      unfold readP
      rw [if_pos hv]
      cases hr : isRd x a s with
      | false => rfl
      | true =>
        obtain ⟨⟨ha0, ha1⟩, _⟩ := isRd_iff.1 hr
        have w := read_wid h ha0 ha1 s.toNat
        have g := read_ge h ha0 ha1 s.toNat
        simp only [if_true]
        rw [wrap_in (by omega) (by omega), decide_eq_false (by omega), Bool.and_false]
    simp (decide := true) (maxSteps := 4000000) only [go_sem, Nat.reduceAdd, Nat.reduceSub, Nat.reduceMul, Nat.reduceDiv, Nat.reduceMod, Nat.reduceLT, Nat.reduceLeDiff, Nat.reduceEqDiff, Nat.reduceBEq, Nat.reduceBNe, Nat.reduceGT, Int.reduceAdd, Int.reduceSub, Int.reduceMul, Int.reduceNeg, Int.reduceLT, Int.reduceLE, Int.reduceEq, Int.reduceNe, Int.reduceBEq, Int.reduceBNe, Int.reduceToNat, Int.reduceGT, Int.reduceGE, ↓reduceIte, decide_true, decide_false, eq_self, Nat.mul_one, Nat.zero_mul, Nat.one_mul, Int.le_refl, Nat.le_refl, Int.cast_ofNat_Int, Try.f12, Sx.t, Sx.cs, rT, rS, lT, lS, e0, hRR, hC, hv, b, b0, Span.t, Span.cs, Bool.false_or, Bool.not_true, hcase]
    refine pwpC_loopU (A := { k : Nat // k ≤ x.tab.length }) [2, 4, 5, 6] (fun k => [(11, .t (.int .i64 k.1)), (10, .t (.bool (metB x k.1)))]) (fun _ => []) (fun k => x.tab.length - k.1) ⟨0, by omega⟩ (by decide) (fun _ => by rfl) ?_ fun Q1 hQ1 ⟨k, hk⟩ I1 hI1 => ?_
    · simp (decide := true) (maxSteps := 4000000) only [go_sem, Nat.reduceAdd, Nat.reduceSub, Nat.reduceMul, Nat.reduceDiv, Nat.reduceMod, Nat.reduceLT, Nat.reduceLeDiff, Nat.reduceEqDiff, Nat.reduceBEq, Nat.reduceBNe, Nat.reduceGT, Int.reduceAdd, Int.reduceSub, Int.reduceMul, Int.reduceNeg, Int.reduceLT, Int.reduceLE, Int.reduceEq, Int.reduceNe, Int.reduceBEq, Int.reduceBNe, Int.reduceToNat, Int.reduceGT, Int.reduceGE, ↓reduceIte, decide_true, decide_false, eq_self, Nat.mul_one, Nat.zero_mul, Nat.one_mul, Int.le_refl, Nat.le_refl, Int.cast_ofNat_Int, metB, List.range_zero, List.any_nil]
    · by_cases hlt : (k : Int) < x.tab.length
      · have hkl : k < x.tab.length := by omega
        have hc1 : IntKind.i64.wrap (k + 1) = ((k + 1 : Nat) : Int) := by rw [wrap_in (by omega) (by omega)]; omega
        obtain ⟨a1, a2, a3⟩ := at_b h hkl
        have w2 : IntKind.i64.wrap ((k : Int) * x.step) = (k : Int) * x.step := wrap_in (by omega) (by omega)
        obtain ⟨r1, r2⟩ := readE_at h hkl
        rw [hP2] at r1 r2
        have hrp : readP x ((k : Int) * x.step) (P2 - 1) = (readS x ((k : Int) * x.step) (P2 - 1).toNat, 0) := by unfold readP; rw [if_pos hv, if_pos r1]
        obtain ⟨R', hR'⟩ : ∃ R, readS x ((k : Int) * x.step) (P2 - 1).toNat = R := ⟨_, rfl⟩
        rw [hR'] at hrp r2
        have htb := h.tab _ (atS_mem hkl)
        have hwf := flt_le x x.tab.length k hkl
        have w3 : IntKind.i64.wrap (R'.hi - R'.lo) = wid (atS x.tab k) + rest x := by rw [r2]; unfold wid; exact wrap_in (by omega) (by omega)
        have ngt : ¬ wid (atS x.tab k) + rest x > FA := by omega
        have heq : (wid (atS x.tab k) + rest x == FA) = (wid (atS x.tab k) == fltTo x x.tab.length) := by
          by_cases c : wid (atS x.tab k) = fltTo x x.tab.length
          · rw [beq_int_t c, beq_int_t (by omega)]
          · rw [beq_int_f c, beq_int_f (by omega)]
        have hnx := metB_succ x k
        obtain ⟨M, hM⟩ : ∃ M, metB x k = M := ⟨_, rfl⟩
        rw [hM] at hnx
        rcases hS with ⟨rfl, hS⟩ | ⟨g, rfl⟩
        · have e1 : P2 = 1 := by rw [← hP2, hS]; rfl
          rw [e1, show (1 : Int) - 1 = 0 from rfl] at hrp
          have w0 : IntKind.i64.wrap (1 * 2 ^ min 0 64) = 1 := rfl
          have w0' : IntKind.i64.wrap 0 = 0 := rfl
          have eS : Sx.mk x.step x.tab ⟨x.idx.lo, x.idx.hi⟩ x.wrong [] = x := by rw [show ([] : List Span) = x.shade from hS.symm]
          have lS0 : ([] : List Span).length ≤ 9000000000000 := by simp
          simp (decide := true) (maxSteps := 4000000) only [go_sem, Nat.reduceAdd, Nat.reduceSub, Nat.reduceMul, Nat.reduceDiv, Nat.reduceMod, Nat.reduceLT, Nat.reduceLeDiff, Nat.reduceEqDiff, Nat.reduceBEq, Nat.reduceBNe, Nat.reduceGT, Int.reduceAdd, Int.reduceSub, Int.reduceMul, Int.reduceNeg, Int.reduceLT, Int.reduceLE, Int.reduceEq, Int.reduceNe, Int.reduceBEq, Int.reduceBNe, Int.reduceToNat, Int.reduceGT, Int.reduceGE, ↓reduceIte, decide_true, decide_false, eq_self, Nat.mul_one, Nat.zero_mul, Nat.one_mul, Int.le_refl, Nat.le_refl, Int.cast_ofNat_Int, hlt, w2, w0, w0', IntKind.bits, unS_eq, unS_nil, lT, lS0, eS, hrp, Span.t, Span.cs, w3, Sx.cs, b, ngt, heq, hM, Bool.false_or, show ((1 : Int) - 1) = 0 from rfl]
          refine hI1 _ ⟨k + 1, by omega⟩ (by simp only; omega) ?_
          simp (decide := true) (maxSteps := 4000000) only [go_sem, Nat.reduceAdd, Nat.reduceSub, Nat.reduceMul, Nat.reduceDiv, Nat.reduceMod, Nat.reduceLT, Nat.reduceLeDiff, Nat.reduceEqDiff, Nat.reduceBEq, Nat.reduceBNe, Nat.reduceGT, Int.reduceAdd, Int.reduceSub, Int.reduceMul, Int.reduceNeg, Int.reduceLT, Int.reduceLE, Int.reduceEq, Int.reduceNe, Int.reduceBEq, Int.reduceBNe, Int.reduceToNat, Int.reduceGT, Int.reduceGE, ↓reduceIte, decide_true, decide_false, eq_self, Nat.mul_one, Nat.zero_mul, Nat.one_mul, Int.le_refl, Nat.le_refl, Int.cast_ofNat_Int, hc1, hnx, orN, Sx.cs]
        · simp (decide := true) (maxSteps := 4000000) only [go_sem, Nat.reduceAdd, Nat.reduceSub, Nat.reduceMul, Nat.reduceDiv, Nat.reduceMod, Nat.reduceLT, Nat.reduceLeDiff, Nat.reduceEqDiff, Nat.reduceBEq, Nat.reduceBNe, Nat.reduceGT, Int.reduceAdd, Int.reduceSub, Int.reduceMul, Int.reduceNeg, Int.reduceLT, Int.reduceLE, Int.reduceEq, Int.reduceNe, Int.reduceBEq, Int.reduceBNe, Int.reduceToNat, Int.reduceGT, Int.reduceGE, ↓reduceIte, decide_true, decide_false, eq_self, Nat.mul_one, Nat.zero_mul, Nat.one_mul, Int.le_refl, Nat.le_refl, Int.cast_ofNat_Int, hlt, w2, hsh, w1, hl0, IntKind.bits, unS_eq, lT, lS, e0, hrp, Span.t, Span.cs, w3, Sx.cs, b, ngt, heq, hM, Bool.false_or]
          refine hI1 _ ⟨k + 1, by omega⟩ (by simp only; omega) ?_
          simp (decide := true) (maxSteps := 4000000) only [go_sem, Nat.reduceAdd, Nat.reduceSub, Nat.reduceMul, Nat.reduceDiv, Nat.reduceMod, Nat.reduceLT, Nat.reduceLeDiff, Nat.reduceEqDiff, Nat.reduceBEq, Nat.reduceBNe, Nat.reduceGT, Int.reduceAdd, Int.reduceSub, Int.reduceMul, Int.reduceNeg, Int.reduceLT, Int.reduceLE, Int.reduceEq, Int.reduceNe, Int.reduceBEq, Int.reduceBNe, Int.reduceToNat, Int.reduceGT, Int.reduceGE, ↓reduceIte, decide_true, decide_false, eq_self, Nat.mul_one, Nat.zero_mul, Nat.one_mul, Int.le_refl, Nat.le_refl, Int.cast_ofNat_Int, hc1, hnx, orN, Sx.cs]
      · have hke : k = x.tab.length := by omega
        subst hke
        simp (decide := true) (maxSteps := 4000000) only [go_sem, Nat.reduceAdd, Nat.reduceSub, Nat.reduceMul, Nat.reduceDiv, Nat.reduceMod, Nat.reduceLT, Nat.reduceLeDiff, Nat.reduceEqDiff, Nat.reduceBEq, Nat.reduceBNe, Nat.reduceGT, Int.reduceAdd, Int.reduceSub, Int.reduceMul, Int.reduceNeg, Int.reduceLT, Int.reduceLE, Int.reduceEq, Int.reduceNe, Int.reduceBEq, Int.reduceBNe, Int.reduceToNat, Int.reduceGT, Int.reduceGE, ↓reduceIte, decide_true, decide_false, eq_self, Nat.mul_one, Nat.zero_mul, Nat.one_mul, Int.le_refl, Nat.le_refl, Int.cast_ofNat_Int, hlt]
        refine hQ1 _ _ ?_
        simp (decide := true) (maxSteps := 4000000) only [go_sem, Nat.reduceAdd, Nat.reduceSub, Nat.reduceMul, Nat.reduceDiv, Nat.reduceMod, Nat.reduceLT, Nat.reduceLeDiff, Nat.reduceEqDiff, Nat.reduceBEq, Nat.reduceBNe, Nat.reduceGT, Int.reduceAdd, Int.reduceSub, Int.reduceMul, Int.reduceNeg, Int.reduceLT, Int.reduceLE, Int.reduceEq, Int.reduceNe, Int.reduceBEq, Int.reduceBNe, Int.reduceToNat, Int.reduceGT, Int.reduceGE, ↓reduceIte, decide_true, decide_false, eq_self, Nat.mul_one, Nat.zero_mul, Nat.one_mul, Int.le_refl, Nat.le_refl, Int.cast_ofNat_Int, hmet, la1, la2, la3, Bool.true_and, Bool.and_self]
end Go.Proofs.Ytjmkccckohcfkaa

/- Part Suh. -/
namespace Go.Os
open Go Go.Pm Go.Oc Go.Oh
/-- What lies between the ends of a span, no more (or nothing does). -/
def Hull (e : Bool) (s : Span) (Q : Int → Prop) : Prop := (e = true ∧ ∀ z, ¬ Q z) ∨ (e = false ∧ Q s.lo ∧ Q s.hi ∧ ∀ z, Q z → s.lo ≤ z ∧ z ≤ s.hi)
theorem widerS_t (s : Span) (n : Int) : widerS s n true = ⟨n, n⟩ := rfl
theorem widerS_f (s : Span) (n : Int) : widerS s n false = ⟨min s.lo n, max s.hi n⟩ := rfl
theorem hull_same {e : Bool} {s : Span} {Q Q' : Int → Prop} (h : Hull e s Q) (hq : ∀ z, Q' z ↔ Q z) : Hull e s Q' := by
  have : Q' = Q := funext fun z => propext (hq z)
  rw [this]; exact h
theorem hull_add {e : Bool} {s : Span} {Q : Int → Prop} (h : Hull e s Q) (n : Int) : Hull false (widerS s n e) (fun z => Q z ∨ z = n) := by
  rcases h with ⟨rfl, h⟩ | ⟨rfl, h1, h2, h3⟩
  · rw [widerS_t]
    exact .inr ⟨rfl, .inr rfl, .inr rfl, fun z hz => by rcases hz with hz | rfl; exact absurd hz (h z); simp⟩
  · rw [widerS_f]
    refine .inr ⟨rfl, ?_, ?_, fun z hz => ?_⟩
    · simp only
      by_cases c : s.lo ≤ n
      · rw [show min s.lo n = s.lo by omega]; exact .inl h1
      · rw [show min s.lo n = n by omega]; exact .inr rfl
    · simp only
      by_cases c : n ≤ s.hi
      · rw [show max s.hi n = s.hi by omega]; exact .inl h2
      · rw [show max s.hi n = n by omega]; exact .inr rfl
    · simp only
      rcases hz with hz | rfl
      · have := h3 z hz; omega
      · omega
theorem hull_span {e : Bool} {s : Span} {Q : Int → Prop} (h : Hull e s Q) {lo hi : Int} (hl : lo ≤ hi) : Hull false (widerS (widerS s lo e) hi false) (fun z => Q z ∨ (lo ≤ z ∧ z ≤ hi)) := by
  have h1 := hull_add (hull_add h lo) hi
  rcases h1 with ⟨he, _⟩ | ⟨_, a, b, c⟩
  · cases he
  · refine .inr ⟨rfl, ?_, ?_, fun z hz => ?_⟩
    · rcases a with (a | a) | a
      · exact .inl a
      · exact .inr (by omega)
      · exact .inr (by omega)
    · rcases b with (b | b) | b
      · exact .inl b
      · exact .inr (by omega)
      · exact .inr (by omega)
    · rcases hz with hz | hz
      · exact c z (.inl (.inl hz))
      · have u := c lo (.inl (.inr rfl)); have v := c hi (.inr rfl); omega
theorem hull_one {e e' : Bool} {s s' : Span} {Q : Int → Prop} (h : Hull e s Q) (h' : Hull e' s' Q) : e = e' ∧ (e = false → s = s') := by
  rcases h with ⟨rfl, h⟩ | ⟨rfl, h1, h2, h3⟩ <;> rcases h' with ⟨rfl, h'⟩ | ⟨rfl, h1', h2', h3'⟩
  · exact ⟨rfl, fun h => (by cases h)⟩
  · exact absurd h1' (h _)
  · exact absurd h1 (h' _)
  · refine ⟨rfl, fun _ => ?_⟩
    obtain ⟨a, b⟩ := s; obtain ⟨c, d⟩ := s'
    have u := h3 _ h1'; have v := h3 _ h2'; have w := h3' _ h1; have t := h3' _ h2
    simp only at *
    rw [show a = c by omega, show b = d by omega]
end Go.Os

/- Part Swh. -/
namespace Go.Os
open Go Go.Pm Go.Oc Go.Oh
theorem tabsV_lenN (x : Sx) (l : List Tr) : (tabsV x l).length = (tabsN x l).length := by unfold tabsV tabsN; rw [List.length_map]
theorem trIx_eq {x : Sx} {l : List Tr} {j n : Nat} (h : (tabsN x l)[j]? = some n) : trIx x l j = x.idx.lo + (n : Int) := by
  unfold trIx; rw [List.getD_eq_getElem?_getD, h]; rfl
theorem trIx_in {x : Sx} {l : List Tr} {j : Nat} (h : j < (tabsN x l).length) : okT x l (trIx x l j) = true ∧ x.idx.lo ≤ trIx x l j ∧ trIx x l j ≤ x.idx.hi := by
  have hj := List.getElem?_eq_getElem h
  have hm := List.mem_of_getElem? hj
  rw [trIx_eq hj]
  have hm' := List.mem_filter.1 hm
  have := List.mem_range.1 hm'.1
  refine ⟨hm'.2, by omega, ?_⟩
  unfold idxN at this; omega
theorem trIx_all {x : Sx} {l : List Tr} {i : Int} (hi : x.idx.lo ≤ i ∧ i ≤ x.idx.hi) (ho : okT x l i = true) : ∃ j, j < (tabsN x l).length ∧ trIx x l j = i := by
  have hm : (i - x.idx.lo).toNat ∈ tabsN x l := by
    unfold tabsN
    refine List.mem_filter.2 ⟨List.mem_range.2 (by unfold idxN; omega), ?_⟩
    unfold okI
    rw [show x.idx.lo + ((i - x.idx.lo).toNat : Int) = i by omega]; exact ho
  obtain ⟨j, hj, e⟩ := List.mem_iff_getElem.1 hm
  refine ⟨j, hj, ?_⟩
  rw [trIx_eq (List.getElem?_eq_getElem hj), e]; omega
theorem trIdx_hull (x : Sx) (l : List Tr) : ∀ k, Hull (decide (k = 0)) (trIdx x l k) (fun i => ∃ j, j < k ∧ trIx x l j = i)
  | 0 => .inl ⟨rfl, fun z ⟨j, h, _⟩ => by omega⟩
  | k + 1 => by
    have ih := hull_add (trIdx_hull x l k) (trIx x l k)
    have e : trIdx x l (k + 1) = widerS (trIdx x l k) (trIx x l k) (decide (k = 0)) := rfl
    rw [e, decide_eq_false (show ¬ k + 1 = 0 by omega)]
    refine hull_same ih fun z => ?_
    constructor
    · rintro ⟨j, h, rfl⟩
      by_cases e : j = k
      · subst e; exact .inr rfl
      · exact .inl ⟨j, by omega, rfl⟩
    · rintro (⟨j, h, rfl⟩ | rfl)
      · exact ⟨j, by omega, rfl⟩
      · exact ⟨k, by omega, rfl⟩
theorem hull_wid2 {a c : Span} {Q : Int → Prop} (h : Hull false a Q) (hc : c.lo ≤ c.hi) : Hull false (wid2 a c) (fun v => Q v ∨ (c.lo ≤ v ∧ v ≤ c.hi)) := by
  unfold wid2
  split
  · rename_i e
    subst e
    rcases h with ⟨he, _⟩ | ⟨_, h1, h2, h3⟩
    · cases he
    · refine .inr ⟨rfl, .inl h1, .inl h2, fun z hz => ?_⟩
      rcases hz with hz | hz
      · exact h3 z hz
      · exact hz
  · exact hull_span h hc
theorem atS_zip {B T : List Span} {k : Nat} (h1 : k < B.length) (h2 : k < T.length) : atS (zipW B T) k = wid2 (atS B k) (atS T k) := by
  have e1 := List.getElem?_eq_getElem h1
  have e2 := List.getElem?_eq_getElem h2
  rw [atS_eq e1, atS_eq e2]
  apply atS_eq
  unfold zipW
  rw [List.getElem?_zipWith, e1, e2]
theorem atS_tabR {x : Sx} {l : List Tr} {i : Int} {k : Nat} (h : k < x.tab.length) : atS (tabR x l i) k = tabK x l i k := by
  apply atS_eq; unfold tabR; rw [List.getElem?_map, List.getElem?_range h]; rfl
theorem okT_ne {x : Sx} {l : List Tr} {i : Int} (h : okT x l i = true) {k : Nat} (hk : k < x.tab.length) : (tabK x l i k).lo ≤ (tabK x l i k).hi := by
  unfold okT at h
  have := List.all_eq_true.1 h k (List.mem_range.2 hk)
  simpa using this
theorem trLeft_hull {x : Sx} {l : List Tr} {k : Nat} (hk : k < x.tab.length) : ∀ n, n < (tabsN x l).length → Hull false (atS (trLeft x l (n + 1)) k) (fun v => ∃ j, j < n + 1 ∧ (tabK x l (trIx x l j) k).lo ≤ v ∧ v ≤ (tabK x l (trIx x l j) k).hi)
  | 0, hn => by
    have hne := okT_ne (trIx_in hn).1 hk
    have e : trLeft x l 1 = zipW (tabR x l (trIx x l 0)) (tabR x l (trIx x l 0)) := rfl
    rw [e, zipW_self, atS_tabR hk]
    refine .inr ⟨rfl, ⟨0, by omega, Int.le_refl _, hne⟩, ⟨0, by omega, hne, Int.le_refl _⟩, fun z ⟨j, hj, hz⟩ => ?_⟩
    have : j = 0 := by omega
    subst this; exact hz
  | n + 1, hn => by
    have ih := trLeft_hull (x := x) (l := l) hk n (by omega)
    have hne := okT_ne (trIx_in hn).1 hk
    have e : trLeft x l (n + 1 + 1) = zipW (trLeft x l (n + 1)) (tabR x l (trIx x l (n + 1))) := by rw [trLeft, if_neg (by omega)]
    rw [e, atS_zip (by rw [trLeft_len]; exact hk) (by rw [tabR_len]; exact hk), atS_tabR hk]
    refine hull_same (hull_wid2 ih hne) fun z => ?_
    constructor
    · rintro ⟨j, h, hz⟩
      by_cases e : j = n + 1
      · subst e; exact .inr hz
      · exact .inl ⟨j, by omega, hz⟩
    · rintro (⟨j, h, hz⟩ | hz)
      · exact ⟨j, by omega, hz⟩
      · exact ⟨n + 1, by omega, hz⟩
theorem mem_acc (i v : Int) : ∀ (L : List Span) (c : Span), ((accS i c L).lo ≤ v ∧ v ≤ (accS i c L).hi) ↔ (c.lo ≤ v ∧ v ≤ c.hi) ∧ ∀ s ∈ L, s.lo - i ≤ v ∧ v ≤ s.hi - i
  | [], c => by simp [accS]
  | s :: L, c => by
    have ih := mem_acc i v L ⟨max c.lo (s.lo - i), min c.hi (s.hi - i)⟩
    have e : accS i c (s :: L) = accS i ⟨max c.lo (s.lo - i), min c.hi (s.hi - i)⟩ L := rfl
    rw [e, ih]
    simp only [List.mem_cons, forall_eq_or_imp]
    have : (max c.lo (s.lo - i) ≤ v ∧ v ≤ min c.hi (s.hi - i)) ↔ (c.lo ≤ v ∧ v ≤ c.hi) ∧ s.lo - i ≤ v ∧ v ≤ s.hi - i := by omega
    rw [this, and_assoc]
theorem cntT_pos {p : Nat → Bool} {N : Nat} : 0 < cntT p N ↔ ∃ j, j < N ∧ p j = true := by
  unfold cntT
  rw [List.length_pos_iff_exists_mem]
  exact ⟨fun ⟨j, hj⟩ => ⟨j, List.mem_range.1 (List.mem_filter.1 hj).1, (List.mem_filter.1 hj).2⟩, fun ⟨j, h1, h2⟩ => ⟨j, List.mem_filter.2 ⟨List.mem_range.2 h1, h2⟩⟩⟩
end Go.Os

/- Part Rep. -/
namespace Go.Os
open Go Go.Pm Go.Oc Go.Oh
def bothOf (L : List Span) : Span := L.foldl (fun a s => ⟨max a.lo s.lo, min a.hi s.hi⟩) ⟨-1000000, 1000000⟩
theorem bothOf_snoc (L : List Span) (s : Span) : bothOf (L ++ [s]) = ⟨max (bothOf L).lo s.lo, min (bothOf L).hi s.hi⟩ := by unfold bothOf; rw [List.foldl_append]; rfl
theorem bothF_b : ∀ (L : List Span) (a : Span), (∀ s ∈ L, -600000 ≤ s.lo ∧ s.lo ≤ 600000 ∧ -600000 ≤ s.hi ∧ s.hi ≤ 600000) → (-1000000 ≤ a.lo ∧ a.lo ≤ 600000 ∧ -600000 ≤ a.hi ∧ a.hi ≤ 1000000) → -1000000 ≤ (L.foldl (fun (a s : Span) => (⟨max a.lo s.lo, min a.hi s.hi⟩ : Span)) a).lo ∧ (L.foldl (fun (a s : Span) => (⟨max a.lo s.lo, min a.hi s.hi⟩ : Span)) a).lo ≤ 600000 ∧ -600000 ≤ (L.foldl (fun (a s : Span) => (⟨max a.lo s.lo, min a.hi s.hi⟩ : Span)) a).hi ∧ (L.foldl (fun (a s : Span) => (⟨max a.lo s.lo, min a.hi s.hi⟩ : Span)) a).hi ≤ 1000000
  | [], a, _, h => h
  | s :: L, a, hL, h => by
    rw [List.foldl_cons]
    have hs := hL s (by simp)
    exact bothF_b L _ (fun y hy => hL y (List.mem_cons_of_mem _ hy)) (by simp only; omega)
theorem bothOf_b (L : List Span) (h : ∀ s ∈ L, -600000 ≤ s.lo ∧ s.lo ≤ 600000 ∧ -600000 ≤ s.hi ∧ s.hi ≤ 600000) : -1000000 ≤ (bothOf L).lo ∧ (bothOf L).lo ≤ 600000 ∧ -600000 ≤ (bothOf L).hi ∧ (bothOf L).hi ≤ 1000000 := bothF_b L _ h (by decide)
theorem sumsN_snoc (x : Sx) (l : List Tr) (p : Tr) (k : Nat) : sumsN x (l ++ [p]) k = if trK x p = k then sumsN x l k ++ [trS x p] else sumsN x l k := by
  unfold sumsN
  rw [List.filter_append, List.map_append]
  by_cases e : trK x p = k
  · rw [if_pos e]; simp [e]
  · rw [if_neg e]; simp [e]
theorem trK_iff {x : Sx} (h : GoodS x) {p : Tr} (hp : trB x p = true) (k : Nat) : p.a = (k : Int) * x.step ↔ trK x p = k := by
  unfold trB at hp
  simp only [Bool.and_eq_true, decide_eq_true_eq] at hp
  obtain ⟨h1, _⟩ := isRd_iff.1 hp.1
  have hst := h.st
  have e3 := Int.mul_ediv_add_emod p.a x.step
  rw [hp.2.1, Int.add_zero] at e3
  unfold trK
  have q0 : 0 ≤ p.a / x.step := Int.ediv_nonneg h1.1 (by omega)
  constructor
  · intro e
    rw [e, Int.mul_ediv_cancel _ (by omega)]; simp
  · intro e
    have : p.a / x.step = (k : Int) := by omega
    rw [this] at e3
    rw [← e3, Int.mul_comm]
/-- The trials of a set. -/
def setT (l : List Tr) (s : Nat) : List Tr := selA l (setN l.length s)
theorem setN_lt {n s : Nat} {x : Nat} (h : x ∈ setN n s) : x < n := by
  unfold setN at h; exact List.mem_range.1 (List.mem_filter.1 h).1
def bS (x : Sx) (L : List Tr) (k : Nat) : Span := bothOf (sumsN x L k)
theorem bS_b {x : Sx} (h : GoodS x) {L : List Tr} (hl : L.all (trB x) = true) (k : Nat) : -1000000 ≤ (bS x L k).lo ∧ (bS x L k).lo ≤ 600000 ∧ -600000 ≤ (bS x L k).hi ∧ (bS x L k).hi ≤ 1000000 := bothOf_b _ fun s hs => sumsN_b h hl hs
end Go.Os

/- Part Rfp. -/
namespace Go.Os
open Go Go.Pm Go.Oc Go.Oh
def nStep (x : Sx) (L : List Tr) (i : Span) (k : Nat) : Span := ⟨max i.lo ((bS x L k).lo - (atS x.tab k).hi), min i.hi ((bS x L k).hi - (atS x.tab k).lo)⟩
def nIdx (x : Sx) (L : List Tr) (k : Nat) : Span := (List.range k).foldl (nStep x L) x.idx
theorem nIdx_succ (x : Sx) (L : List Tr) (k : Nat) : nIdx x L (k + 1) = nStep x L (nIdx x L k) k := by unfold nIdx; rw [List.range_succ, List.foldl_append]; rfl
def nI' (x : Sx) (L : List Tr) : Span := nIdx x L x.tab.length
def nEl (x : Sx) (L : List Tr) (k : Nat) : Span := ⟨max (atS x.tab k).lo ((bS x L k).lo - (nI' x L).hi), min (atS x.tab k).hi ((bS x L k).hi - (nI' x L).lo)⟩
def nTab (x : Sx) (L : List Tr) (k : Nat) : List Span := (List.range k).map (nEl x L)
theorem nTab_succ (x : Sx) (L : List Tr) (k : Nat) : nTab x L (k + 1) = nTab x L k ++ [nEl x L k] := by unfold nTab; rw [List.range_succ, List.map_append]; rfl
theorem nTab_len (x : Sx) (L : List Tr) (k : Nat) : (nTab x L k).length = k := by simp [nTab]
/-- Can all of these trials be so? -/
def narOk (x : Sx) (L : List Tr) : Bool := (List.range x.tab.length).all (fun k => decide ((bS x L k).lo ≤ (bS x L k).hi)) && decide ((nI' x L).lo ≤ (nI' x L).hi)
def narT (x : Sx) (sT sS : TV) (L : List Tr) : TV := if narOk x L then .agg [.int .i64 x.step, .sl ((nTab x L x.tab.length).flatMap Span.cs) x.tab.length false, .int .i64 (nI' x L).lo, .int .i64 (nI' x L).hi, .int .i64 x.wrong, sS] else x.t sT sS
theorem nIdx_b {x : Sx} (h : GoodS x) {L : List Tr} (hl : L.all (trB x) = true) : ∀ k, k ≤ x.tab.length → (-2000000 ≤ (nIdx x L k).lo ∧ (nIdx x L k).lo ≤ 2000000) ∧ -2000000 ≤ (nIdx x L k).hi ∧ (nIdx x L k).hi ≤ 2000000
  | 0, _ => by have := h.idx; simp only [nIdx, List.range_zero, List.foldl_nil]; omega
  | k + 1, hk => by
    have ih := nIdx_b h hl k (by omega)
    have hb := bS_b h hl k
    have ht := h.tab _ (atS_mem (show k < x.tab.length by omega))
    rw [nIdx_succ]; unfold nStep; simp only; omega
/-- What the specification's Trial returns. -/
def trialR (x : Sx) (l : List Tr) : List Span × Span × Int :=
  if openedE x l = 0 then (if narOk x (setT l (2 ^ l.length - 1)) then (nTab x (setT l (2 ^ l.length - 1)) x.tab.length, nI' x (setT l (2 ^ l.length - 1)), 0) else ([], ⟨0, 0⟩, 54)) else ([], ⟨0, 0⟩, openedE x l)
def badR (x : Sx) (l : List Tr) (S : List Nat) : Bool := !narOk x (selA l S)
/-- What the specification's False returns. -/
def falseR (x : Sx) (l : List Tr) : List Nat × Int :=
  if openedE x l = 0 then (if refTo (badR x l) l.length (2 ^ l.length - 1) = [] then ([], 4) else (refTo (badR x l) l.length (2 ^ l.length - 1), 0)) else ([], openedE x l)
end Go.Os

/- Part Sv. -/
namespace Go.Os
open Go Go.Pm Go.Oc Go.Oh
theorem acc_both (i : Int) (c0 : Span) : ∀ (L : List Span) (a c : Span), c.lo = max c0.lo (a.lo - i) → c.hi = min c0.hi (a.hi - i) →
    accS i c L = ⟨max c0.lo ((L.foldl (fun (a s : Span) => (⟨max a.lo s.lo, min a.hi s.hi⟩ : Span)) a).lo - i), min c0.hi ((L.foldl (fun (a s : Span) => (⟨max a.lo s.lo, min a.hi s.hi⟩ : Span)) a).hi - i)⟩
  | [], a, c, h1, h2 => by
    obtain ⟨c1, c2⟩ := c
    simp only at h1 h2
    simp only [accS, List.foldl_nil]
    rw [h1, h2]
  | s :: L, a, c, h1, h2 => by
    have e : accS i c (s :: L) = accS i ⟨max c.lo (s.lo - i), min c.hi (s.hi - i)⟩ L := rfl
    rw [e, List.foldl_cons]
    exact acc_both i c0 L _ _ (by simp only; omega) (by simp only; omega)
/-- A table that is left, by what all sums of its trials leave. -/
theorem tabK_both {x : Sx} (h : GoodS x) (L : List Tr) {i : Int} (hi : -1800 ≤ i ∧ i ≤ 1800) {k : Nat} (hk : k < x.tab.length) : tabK x L i k = ⟨max (atS x.tab k).lo ((bS x L k).lo - i), min (atS x.tab k).hi ((bS x L k).hi - i)⟩ := by
  have ht := h.tab _ (atS_mem hk)
  exact acc_both i (atS x.tab k) (sumsN x L k) ⟨-1000000, 1000000⟩ (atS x.tab k) (by simp only; omega) (by simp only; omega)
theorem okT_iff {x : Sx} (h : GoodS x) (L : List Tr) {i : Int} (hi : -1800 ≤ i ∧ i ≤ 1800) : okT x L i = true ↔ ∀ k, k < x.tab.length → (bS x L k).lo ≤ (bS x L k).hi ∧ (bS x L k).lo - (atS x.tab k).hi ≤ i ∧ i ≤ (bS x L k).hi - (atS x.tab k).lo := by
  unfold okT
  rw [List.all_eq_true]
  constructor
  · intro hh k hk
    have := hh k (List.mem_range.2 hk)
    rw [decide_eq_true_eq, tabK_both h L hi hk] at this
    simp only at this
    have ht := h.tab _ (atS_mem hk)
    omega
  · intro hh k hk
    have hk := List.mem_range.1 hk
    have := hh k hk
    rw [decide_eq_true_eq, tabK_both h L hi hk]
    simp only
    have ht := h.tab _ (atS_mem hk)
    omega
theorem mem_nIdx (x : Sx) (L : List Tr) (i : Int) : ∀ k, ((nIdx x L k).lo ≤ i ∧ i ≤ (nIdx x L k).hi) ↔ (x.idx.lo ≤ i ∧ i ≤ x.idx.hi) ∧ ∀ j, j < k → (bS x L j).lo - (atS x.tab j).hi ≤ i ∧ i ≤ (bS x L j).hi - (atS x.tab j).lo
  | 0 => by simp [nIdx]
  | k + 1 => by
    have ih := mem_nIdx x L i k
    rw [nIdx_succ]
    unfold nStep
    simp only
    constructor
    · intro hh
      obtain ⟨a, b⟩ := ih.1 ⟨by omega, by omega⟩
      refine ⟨a, fun j hj => ?_⟩
      by_cases e : j = k
      · subst e; omega
      · exact b j (by omega)
    · rintro ⟨a, b⟩
      have u := ih.2 ⟨a, fun j hj => b j (by omega)⟩
      have v := b k (by omega)
      omega
/-- With which index errors all trials can be so. -/
theorem okT_nar {x : Sx} (h : GoodS x) (L : List Tr) {i : Int} (hi : x.idx.lo ≤ i ∧ i ≤ x.idx.hi) : okT x L i = true ↔ (∀ k, k < x.tab.length → (bS x L k).lo ≤ (bS x L k).hi) ∧ (nI' x L).lo ≤ i ∧ i ≤ (nI' x L).hi := by
  have hx := h.idx
  rw [okT_iff h L (by omega)]
  unfold nI'
  rw [mem_nIdx]
  exact ⟨fun hh => ⟨fun k hk => (hh k hk).1, hi, fun k hk => (hh k hk).2⟩, fun ⟨a, _, b⟩ k hk => ⟨a k hk, b k hk⟩⟩
theorem narOk_iff {x : Sx} {L : List Tr} : narOk x L = true ↔ (∀ k, k < x.tab.length → (bS x L k).lo ≤ (bS x L k).hi) ∧ (nI' x L).lo ≤ (nI' x L).hi := by
  unfold narOk
  rw [Bool.and_eq_true, List.all_eq_true, decide_eq_true_eq]
  exact ⟨fun hh => ⟨fun k hk => by have := hh.1 k (List.mem_range.2 hk); simpa using this, hh.2⟩, fun hh => ⟨fun k hk => decide_eq_true (hh.1 k (List.mem_range.1 hk)), hh.2⟩⟩
theorem nI_in {x : Sx} {L : List Tr} (h : (nI' x L).lo ≤ (nI' x L).hi) : x.idx.lo ≤ (nI' x L).lo ∧ (nI' x L).hi ≤ x.idx.hi := by
  have a := ((mem_nIdx x L (nI' x L).lo x.tab.length).1 ⟨Int.le_refl _, h⟩).1
  have b := ((mem_nIdx x L (nI' x L).hi x.tab.length).1 ⟨h, Int.le_refl _⟩).1
  exact ⟨a.1, b.2⟩
theorem narOk_ex {x : Sx} (h : GoodS x) (L : List Tr) : narOk x L = true ↔ ∃ i, (x.idx.lo ≤ i ∧ i ≤ x.idx.hi) ∧ okT x L i = true := by
  rw [narOk_iff]
  constructor
  · rintro ⟨a, b⟩
    have c := nI_in b
    refine ⟨(nI' x L).lo, by omega, (okT_nar h L (by omega)).2 ⟨a, Int.le_refl _, b⟩⟩
  · rintro ⟨i, hi, ho⟩
    obtain ⟨a, b⟩ := (okT_nar h L hi).1 ho
    exact ⟨a, by omega⟩
theorem cnt_nar {x : Sx} (h : GoodS x) (L : List Tr) : decide (0 < cntT (okI x L) (idxN x)) = narOk x L := by
  rw [Bool.eq_iff_iff, decide_eq_true_eq, cntT_pos, narOk_ex h]
  constructor
  · rintro ⟨j, hj, hp⟩
    exact ⟨x.idx.lo + (j : Int), by unfold idxN at hj; omega, hp⟩
  · rintro ⟨i, hi, hp⟩
    refine ⟨(i - x.idx.lo).toNat, by unfold idxN; omega, ?_⟩
    unfold okI
    rw [show x.idx.lo + ((i - x.idx.lo).toNat : Int) = i by omega]; exact hp
theorem noAt_nil {x : Sx} (h : GoodS x) {L : List Tr} (hl : L.all (trB x) = true) (hn : noAt x L = true) : L = [] := by
  cases L with
  | nil => rfl
  | cons p L =>
    have hp := List.all_eq_true.1 hl p (by simp)
    have hk := (trK_lt h hp).1
    unfold noAt at hn
    rw [Bool.not_eq_true', List.any_eq_false] at hn
    have := hn (trK x p) (List.mem_range.2 hk)
    unfold atN at this
    simp at this
/-- Whether trials can be made: both say the same. -/
theorem can_nar {x : Sx} (h : GoodS x) {L : List Tr} (hl : L.all (trB x) = true) : canB x L = narOk x L := by
  unfold canB
  rw [cnt_nar h]
  cases hn : noAt x L with
  | false => rfl
  | true =>
    have := noAt_nil h hl hn
    subst this
    rw [Bool.true_or]
    symm
    rw [narOk_ex h]
    have hi := h.idx
    refine ⟨x.idx.lo, by omega, ?_⟩
    unfold okT
    rw [List.all_eq_true]
    intro k hk
    rw [decide_eq_true_eq]
    have ht := h.tab _ (atS_mem (List.mem_range.1 hk))
    have e : tabK x [] x.idx.lo k = atS x.tab k := rfl
    rw [e]; omega
theorem bad_same {x : Sx} (h : GoodS x) {l : List Tr} (hl : l.all (trB x) = true) : badC x l = badR x l := by
  funext S
  unfold badC badR
  rw [can_nar h (trs_sel hl S)]
theorem sums_sub {x : Sx} {l L : List Tr} (hs : ∀ p ∈ L, p ∈ l) {k : Nat} {s : Span} (h : s ∈ sumsN x L k) : s ∈ sumsN x l k := by
  unfold sumsN at h ⊢
  obtain ⟨p, hp, rfl⟩ := List.mem_map.1 h
  have := List.mem_filter.1 hp
  exact List.mem_map.2 ⟨p, List.mem_filter.2 ⟨hs p this.1, this.2⟩, rfl⟩
/-- Fewer trials can be made, too. -/
theorem nar_sub {x : Sx} (h : GoodS x) {l L : List Tr} (hs : ∀ p ∈ L, p ∈ l) (ho : narOk x l = true) : narOk x L = true := by
  rw [narOk_ex h] at ho ⊢
  obtain ⟨i, hi, ho⟩ := ho
  refine ⟨i, hi, ?_⟩
  unfold okT at ho ⊢
  rw [List.all_eq_true] at ho ⊢
  intro k hk
  have := ho k hk
  rw [decide_eq_true_eq] at this ⊢
  have hm := (mem_acc i (tabK x l i k).lo (sumsN x l k) (atS x.tab k)).1 ⟨Int.le_refl _, this⟩
  have hm' := (mem_acc i (tabK x l i k).lo (sumsN x L k) (atS x.tab k)).2 ⟨hm.1, fun s hs' => hm.2 s (sums_sub hs hs')⟩
  unfold tabK
  unfold tabK at hm'
  omega
theorem setN_all (n : Nat) : setN n (2 ^ n - 1) = List.range n := by
  unfold setN
  rw [List.filter_eq_self]
  intro i hi
  rw [Nat.testBit_two_pow_sub_one]
  exact decide_eq_true (List.mem_range.1 hi)
theorem setT_all (l : List Tr) : setT l (2 ^ l.length - 1) = l := by unfold setT; rw [setN_all, selA_range]
/-- False: both say the same. -/
theorem false_same (x : Sx) (l : List Tr) : falseR x l = falseP x l := by
  unfold falseR falseP
  by_cases hE : openedE x l = 0
  · rw [if_pos hE, if_pos hE]
    unfold openedE at hE
    cases hv : sxOk x with
    | false => rw [hv] at hE; cases hE
    | true =>
      rw [hv, if_pos rfl] at hE
      have htr : trsOk x l = true := by
        cases ht : trsOk x l with
        | true => rfl
        | false => rw [ht] at hE; cases hE
      have h := sxOk_iff.1 hv
      unfold trsOk at htr
      rw [Bool.and_eq_true, inB_iff] at htr
      have hl := htr.2
      have hrange : selA l (List.range l.length) = l := selA_range l
      rw [← bad_same h hl]
      rcases searches (badC x l) l.length with ⟨e1, e2, e3⟩ | ⟨e1, S, hS, e2, e3⟩
      · rw [if_pos e2]
        have := e3 (List.range l.length) (row_all _) (by intro e; have := congrArg List.length e; simp at this; rw [this] at htr; simp at htr)
        unfold badC at this
        rw [hrange] at this
        rw [if_pos (by simpa using this)]
      · rw [e3, if_neg hS.ne, e2]
        have hb := hS.isBad
        unfold badC at hb
        rw [can_nar h (trs_sel hl S)] at hb
        have : canB x l = false := by
          rw [can_nar h hl]
          cases hn : narOk x l with
          | false => rfl
          | true =>
            rw [nar_sub h (fun p hp => selA_sub hp) hn] at hb
            cases hb
        rw [this]; rfl
  · rw [if_neg hE, if_neg hE]
end Go.Os

/- Part Sw. -/
namespace Go.Os
open Go Go.Pm Go.Oc Go.Oh
theorem atS_nTab {x : Sx} {L : List Tr} {k : Nat} (h : k < x.tab.length) : atS (nTab x L x.tab.length) k = nEl x L k := by
  apply atS_eq; unfold nTab; rw [List.getElem?_map, List.getElem?_range h]; rfl
theorem ext_atS {a b : List Span} (h : a.length = b.length) (hk : ∀ k, k < a.length → atS a k = atS b k) : a = b := by
  refine List.ext_getElem h fun k h1 h2 => ?_
  have := hk k h1
  rw [atS_eq (List.getElem?_eq_getElem h1), atS_eq (List.getElem?_eq_getElem h2)] at this
  exact this
/-- Trial: both say the same. -/
theorem trial_same (x : Sx) (l : List Tr) : trialR x l = trialP x l := by
  unfold trialR trialP
  by_cases hE : openedE x l = 0
  · rw [if_pos hE, if_pos hE, setT_all]
    unfold openedE at hE
    cases hv : sxOk x with
    | false => rw [hv] at hE; cases hE
    | true =>
      have h := sxOk_iff.1 hv
      have hi := h.idx
      have hlen := h.len
      rw [tabsV_lenN]
      cases hn : narOk x l with
      | false =>
        have : (tabsN x l).length = 0 := by
          rcases Nat.eq_zero_or_pos (tabsN x l).length with h0 | h0
          · exact h0
          · obtain ⟨h1, h2⟩ := trIx_in h0
            rw [(narOk_ex h l).2 ⟨_, h2, h1⟩] at hn; cases hn
        rw [if_neg (by simp), if_pos this]
      | true =>
        obtain ⟨i, hii, ho⟩ := (narOk_ex h l).1 hn
        obtain ⟨j, hj, _⟩ := trIx_all hii ho
        rw [if_pos rfl, if_neg (by omega)]
        obtain ⟨hb, hne⟩ := narOk_iff.1 hn
        have hin := nI_in hne
        obtain ⟨N, hN⟩ : ∃ N, (tabsN x l).length = N + 1 := ⟨(tabsN x l).length - 1, by omega⟩
        have hset : ∀ i, (∃ j, j < N + 1 ∧ trIx x l j = i) ↔ ((nI' x l).lo ≤ i ∧ i ≤ (nI' x l).hi) := fun i => by
          constructor
          · rintro ⟨j, hj, rfl⟩
            obtain ⟨h1, h2⟩ := trIx_in (x := x) (l := l) (j := j) (by omega)
            exact ((okT_nar h l h2).1 h1).2
          · intro hh
            obtain ⟨j, h1, h2⟩ := trIx_all (x := x) (l := l) (i := i) (by omega) ((okT_nar h l (by omega)).2 ⟨hb, hh⟩)
            exact ⟨j, by omega, h2⟩
        rw [hN]
        have e1 : nI' x l = trIdx x l (N + 1) := by
          have a : Hull false (nI' x l) (fun i => (nI' x l).lo ≤ i ∧ i ≤ (nI' x l).hi) := .inr ⟨rfl, ⟨Int.le_refl _, hne⟩, ⟨hne, Int.le_refl _⟩, fun z hz => hz⟩
          have b := hull_same (trIdx_hull x l (N + 1)) (fun i => (hset i).symm)
          exact (hull_one a b).2 rfl
        have e2 : nTab x l x.tab.length = trLeft x l (N + 1) := by
          refine ext_atS (by rw [nTab_len, trLeft_len]) fun k hk => ?_
          rw [nTab_len] at hk
          rw [atS_nTab hk]
          have b := trLeft_hull hk N (show N < (tabsN x l).length by omega)
          have hK : ∀ i, (nI' x l).lo ≤ i ∧ i ≤ (nI' x l).hi → tabK x l i k = ⟨max (atS x.tab k).lo ((bS x l k).lo - i), min (atS x.tab k).hi ((bS x l k).hi - i)⟩ := fun i hh => tabK_both h l (by omega) hk
          have hne' : ∀ i, (nI' x l).lo ≤ i ∧ i ≤ (nI' x l).hi → (tabK x l i k).lo ≤ (tabK x l i k).hi := fun i hh => okT_ne ((okT_nar h l (by omega)).2 ⟨hb, hh⟩) hk
          have a : Hull false (nEl x l k) (fun v => ∃ j, j < N + 1 ∧ (tabK x l (trIx x l j) k).lo ≤ v ∧ v ≤ (tabK x l (trIx x l j) k).hi) := by
            refine .inr ⟨rfl, ?_, ?_, ?_⟩
            · obtain ⟨j, hj, e⟩ := (hset (nI' x l).hi).2 ⟨hne, Int.le_refl _⟩
              refine ⟨j, hj, ?_⟩
              rw [e]
              have := hne' _ ⟨hne, Int.le_refl _⟩
              rw [hK _ ⟨hne, Int.le_refl _⟩] at this ⊢
              unfold nEl
              simp only at this ⊢
              exact ⟨Int.le_refl _, this⟩
            · obtain ⟨j, hj, e⟩ := (hset (nI' x l).lo).2 ⟨Int.le_refl _, hne⟩
              refine ⟨j, hj, ?_⟩
              rw [e]
              have := hne' _ ⟨Int.le_refl _, hne⟩
              rw [hK _ ⟨Int.le_refl _, hne⟩] at this ⊢
              unfold nEl
              simp only at this ⊢
              exact ⟨this, Int.le_refl _⟩
            · rintro z ⟨j, hj, hz⟩
              have hh := (hset _).1 ⟨j, hj, rfl⟩
              rw [hK _ hh] at hz
              unfold nEl
              simp only at hz ⊢
              omega
          exact (hull_one a b).2 rfl
        rw [e1, e2]
  · rw [if_neg hE, if_neg hE]
end Go.Os

/- Part Ofa. -/
namespace Go.Os
open Go Go.Pm Go.Oc Go.Oh
/-- What the shades err by in one trial, so many looked at. -/
def shC (x : Sx) (bits : List Int) (set : Nat) (j k : Nat) : Int := (List.range k).foldl (fun n (i : Nat) => if set.testBit i then n + chosen (atS x.shade i).lo (atS x.shade i).hi (pickI bits ((j : Int) + (i : Int) + 4)) else n) 0
theorem shC_succ (x : Sx) (bits : List Int) (set j k : Nat) : shC x bits set j (k + 1) = if set.testBit k then shC x bits set j k + chosen (atS x.shade k).lo (atS x.shade k).hi (pickI bits ((j : Int) + (k : Int) + 4)) else shC x bits set j k := by unfold shC; rw [List.range_succ, List.foldl_append]; rfl
/-- A truth without shades. -/
def bareX (x : Sx) (bits : List Int) : Sx := ⟨x.step, tTab x bits x.tab.length, tCh bits x.idx 7, 0, []⟩
theorem bare_good {x : Sx} (h : GoodS x) (bits : List Int) : GoodS (bareX x bits) := by
  have g := truth_good h bits
  exact ⟨g.st, g.len, g.tab, g.long, g.idx, by show (0 : Int) ≤ 0 ∧ (0 : Int) ≤ 60; omega, by show ([] : List Span).length ≤ 6; simp, by intro s hs; cases hs⟩
theorem bare_last (x : Sx) (bits : List Int) : last (bareX x bits) = last x := by
  show x.step * ((tTab x bits x.tab.length).length - 1) = _; rw [tTab_len]; rfl
def cK (x : Sx) (bits : List Int) (j : Nat) : Nat := (pickI bits ((j : Int) + 1) % x.tab.length).toNat
def cS (x : Sx) (bits : List Int) (j : Nat) : Nat := (pickI bits ((j : Int) + 2) % 2 ^ x.shade.length).toNat
def cW (x : Sx) (bits : List Int) (j : Nat) : Int := chosen (-x.wrong) x.wrong (pickI bits ((j : Int) + 3))
/-- A trial of a truth, as numbers choose it. -/
def trialC (x : Sx) (bits : List Int) (j : Nat) : Tr := ⟨x.step * (cK x bits j : Int), cS x bits j, angleV (bareX x bits) (x.step * (cK x bits j : Int)) (cS x bits j) (cW x bits j) + shC x bits (cS x bits j) j x.shade.length⟩
def trialsC (x : Sx) (bits : List Int) (n : Nat) : List Tr := (List.range n).map (trialC x bits)
theorem trialsC_succ (x : Sx) (bits : List Int) (n : Nat) : trialsC x bits (n + 1) = trialsC x bits n ++ [trialC x bits n] := by unfold trialsC; rw [List.range_succ, List.map_append]; rfl
theorem trialsC_len (x : Sx) (bits : List Int) (n : Nat) : (trialsC x bits n).length = n := by simp [trialsC]
theorem cK_b {x : Sx} (h : GoodS x) (bits : List Int) (j : Nat) : cK x bits j < x.tab.length ∧ (cK x bits j : Int) = pickI bits ((j : Int) + 1) % x.tab.length := by
  have hl := h.len
  have h1 := Int.emod_nonneg (pickI bits ((j : Int) + 1)) (show (x.tab.length : Int) ≠ 0 by omega)
  have h2 := Int.emod_lt_of_pos (pickI bits ((j : Int) + 1)) (show 0 < (x.tab.length : Int) by omega)
  unfold cK; omega
theorem cS_b {x : Sx} (h : GoodS x) (bits : List Int) (j : Nat) : (cS x bits j : Int) ≤ 2 ^ x.shade.length - 1 ∧ (cS x bits j : Int) = pickI bits ((j : Int) + 2) % 2 ^ x.shade.length := by
  have hp := pow_len h.sh
  have h1 := Int.emod_nonneg (pickI bits ((j : Int) + 2)) (show (2 : Int) ^ x.shade.length ≠ 0 by omega)
  have h2 := Int.emod_lt_of_pos (pickI bits ((j : Int) + 2)) (show 0 < (2 : Int) ^ x.shade.length by omega)
  unfold cS; omega
theorem cW_b {x : Sx} (h : GoodS x) (bits : List Int) (j : Nat) : -x.wrong ≤ cW x bits j ∧ cW x bits j ≤ x.wrong := by
  have hw := h.wr
  exact chosen_mem _ (by omega)
theorem shC_mid {x : Sx} (h : GoodS x) (bits : List Int) (set j : Nat) : ∀ k, k ≤ x.shade.length → (shTo x set k).lo + x.wrong ≤ shC x bits set j k ∧ shC x bits set j k ≤ (shTo x set k).hi - x.wrong
  | 0, _ => by simp only [shTo, shC, List.range_zero, List.foldl_nil]; omega
  | k + 1, hk => by
    have ih := shC_mid h bits set j k (by omega)
    have hs := h.shade _ (atS_mem (show k < x.shade.length by omega))
    have hc := chosen_mem (pickI bits ((j : Int) + (k : Int) + 4)) hs.2.1
    rw [shTo_succ, shC_succ]
    split
    · simp only [addS]; omega
    · omega
theorem shC_b {x : Sx} (h : GoodS x) (bits : List Int) (set j : Nat) {k : Nat} (hk : k ≤ x.shade.length) : -800 ≤ shC x bits set j k ∧ shC x bits set j k ≤ 800 := by
  have a := shC_mid h bits set j k hk
  have b := shTo_b h set k hk
  have := h.sh
  have := h.wr
  omega
/-- The true index error, and the true corrections. -/
def tI (x : Sx) (bits : List Int) : Int := (tCh bits x.idx 7).lo
def tV (x : Sx) (bits : List Int) (k : Nat) : Int := (tCh bits (atS x.tab k) k).lo
theorem angle_C {x : Sx} (h : GoodS x) (bits : List Int) {k : Nat} (hk : k < x.tab.length) (set : Nat) (w : Int) : angleV (bareX x bits) (x.step * (k : Int)) set w = x.step * (k : Int) + tI x bits + w + tV x bits k := by
  have hg := bare_good h bits
  have hl : (bareX x bits).tab.length = x.tab.length := tTab_len _ _ _
  have e := corr_at hg (k := k) (by rw [hl]; exact hk)
  have e1 : (bareX x bits).step = x.step := rfl
  have e2 : (bareX x bits).tab = tTab x bits x.tab.length := rfl
  rw [e1, e2, tTab_at hk, Int.mul_comm] at e
  unfold angleV
  rw [e1, e2, e]
  show _ + (tCh bits x.idx 7).lo + w + _ + shL (bareX x bits) set 0 = _
  have : shL (bareX x bits) set 0 = 0 := rfl
  rw [this, Int.add_zero]; rfl
theorem tI_b {x : Sx} (h : GoodS x) (bits : List Int) : x.idx.lo ≤ tI x bits ∧ tI x bits ≤ x.idx.hi := (tCh_in bits 7 h.idx.2.1).1
theorem tV_b {x : Sx} (h : GoodS x) (bits : List Int) {k : Nat} (hk : k < x.tab.length) : (atS x.tab k).lo ≤ tV x bits k ∧ tV x bits k ≤ (atS x.tab k).hi := (tCh_in bits (k : Int) (h.tab _ (atS_mem hk)).2.1).1
theorem trC_ok {x : Sx} (h : GoodS x) (bits : List Int) (j : Nat) : trB x (trialC x bits j) = true := by
  obtain ⟨k1, _⟩ := cK_b h bits j
  obtain ⟨s1, _⟩ := cS_b h bits j
  have a := at_b h k1
  rw [Int.mul_comm] at a
  have i := tI_b h bits
  have hi := h.idx
  have v := tV_b h bits k1
  have hv := h.tab _ (atS_mem k1)
  have w := cW_b h bits j
  have hw := h.wr
  have s := shC_b h bits (cS x bits j) j (Nat.le_refl x.shade.length)
  unfold trB trialC
  simp only [angle_C h bits k1]
  rw [Bool.and_eq_true, Bool.and_eq_true, isRd_iff, decide_eq_true_eq, inB_iff]
  refine ⟨⟨⟨a.1, a.2.1⟩, by omega, s1⟩, Int.mul_emod_right _ _, ?_⟩
  omega
theorem trsC_ok {x : Sx} (h : GoodS x) (bits : List Int) (n : Nat) : (trialsC x bits n).all (trB x) = true := by
  rw [List.all_eq_true]
  intro p hp
  obtain ⟨j, _, rfl⟩ := List.mem_map.1 hp
  exact trC_ok h bits j
theorem trC_K {x : Sx} (h : GoodS x) (bits : List Int) (j : Nat) : trK x (trialC x bits j) = cK x bits j := (trK_iff h (trC_ok h bits j) _).1 (Int.mul_comm _ _)
/-- What is true is left by each of its trials. -/
theorem trC_in {x : Sx} (h : GoodS x) (bits : List Int) (j : Nat) : (trS x (trialC x bits j)).lo ≤ tI x bits + tV x bits (cK x bits j) ∧ tI x bits + tV x bits (cK x bits j) ≤ (trS x (trialC x bits j)).hi := by
  obtain ⟨k1, _⟩ := cK_b h bits j
  have m := shC_mid h bits (cS x bits j) j x.shade.length (Nat.le_refl _)
  have w := cW_b h bits j
  have e : shTo x (cS x bits j) x.shade.length = shs x (cS x bits j) := rfl
  rw [e] at m
  unfold trS trialC
  simp only [angle_C h bits k1, Int.toNat_natCast]
  omega
theorem okT_C {x : Sx} (h : GoodS x) (bits : List Int) (n : Nat) {k : Nat} (hk : k < x.tab.length) : (tabK x (trialsC x bits n) (tI x bits) k).lo ≤ tV x bits k ∧ tV x bits k ≤ (tabK x (trialsC x bits n) (tI x bits) k).hi := by
  refine (mem_acc (tI x bits) (tV x bits k) _ _).2 ⟨tV_b h bits hk, fun s hs => ?_⟩
  unfold sumsN at hs
  obtain ⟨p, hp, rfl⟩ := List.mem_map.1 hs
  obtain ⟨h1, h2⟩ := List.mem_filter.1 hp
  obtain ⟨j, _, rfl⟩ := List.mem_map.1 h1
  have h3 : cK x bits j = k := by rw [← trC_K h bits j]; simpa using h2
  have := trC_in h bits j
  rw [h3] at this
  omega
theorem okC {x : Sx} (h : GoodS x) (bits : List Int) (n : Nat) : okT x (trialsC x bits n) (tI x bits) = true := by
  unfold okT
  rw [List.all_eq_true]
  intro k hk
  have := okT_C h bits n (List.mem_range.1 hk)
  rw [decide_eq_true_eq]; omega
theorem openedC {x : Sx} (h : GoodS x) (bits : List Int) {n : Nat} (h1 : 1 ≤ n) (h8 : n ≤ 8) : openedE x (trialsC x bits n) = 0 := by
  unfold openedE trsOk
  rw [sxOk_iff.2 h, if_pos rfl, trsC_ok h bits n, trialsC_len, inB_iff.2 (by omega)]; rfl
/-- The sextant that is left by trials of a truth. -/
theorem trial_C {x : Sx} (h : GoodS x) (bits : List Int) {n : Nat} (h1 : 1 ≤ n) (h8 : n ≤ 8) : ∃ T J, trialP x (trialsC x bits n) = (T, J, 0) ∧ falseP x (trialsC x bits n) = ([], 4) ∧ T.length = x.tab.length ∧ (J.lo ≤ tI x bits ∧ tI x bits ≤ J.hi) ∧ (x.idx.lo ≤ J.lo ∧ J.hi ≤ x.idx.hi) ∧
    ∀ k, k < x.tab.length → ((atS T k).lo ≤ tV x bits k ∧ tV x bits k ≤ (atS T k).hi) ∧ (atS x.tab k).lo ≤ (atS T k).lo ∧ (atS T k).hi ≤ (atS x.tab k).hi := by
  have hE := openedC h bits h1 h8
  have hi := tI_b h bits
  have hx := h.idx
  obtain ⟨L, hL⟩ : ∃ L, trialsC x bits n = L := ⟨_, rfl⟩
  have hok := okC h bits n
  have hin : ∀ k, k < x.tab.length → _ := fun k hk => okT_C h bits n hk
  have hall := trsC_ok h bits n
  rw [hL] at hE hok hin hall ⊢
  have hn : narOk x L = true := (narOk_ex h L).2 ⟨_, hi, hok⟩
  obtain ⟨hb, hn1⟩ := (okT_nar h L hi).1 hok
  have hJ := nI_in (x := x) (L := L) (by omega)
  refine ⟨nTab x L x.tab.length, nI' x L, ?_, ?_, nTab_len _ _ _, hn1, hJ, fun k hk => ?_⟩
  · rw [← trial_same]
    unfold trialR
    rw [if_pos hE, setT_all, if_pos hn]
  · unfold falseP
    rw [if_pos hE, can_nar h hall, hn]; rfl
  · rw [atS_nTab hk]
    have hv := hin k hk
    rw [tabK_both h L (by omega) hk] at hv
    unfold nEl
    simp only at hv ⊢
    omega
/-- A sextant that is as narrow, or narrower. -/
structure Nar (x y : Sx) : Prop where
  st : y.step = x.step
  len : y.tab.length = x.tab.length
  tab : ∀ k, k < x.tab.length → (atS x.tab k).lo ≤ (atS y.tab k).lo ∧ (atS y.tab k).hi ≤ (atS x.tab k).hi
  idx : x.idx.lo ≤ y.idx.lo ∧ y.idx.hi ≤ x.idx.hi
  wr : y.wrong = x.wrong
  sh : y.shade = x.shade
theorem nar_corr {x y : Sx} (h : GoodS x) (n : Nar x y) {a : Int} (h0 : 0 ≤ a) (h1 : a ≤ last x) : (corr x.step x.tab a).lo ≤ (corr y.step y.tab a).lo ∧ (corr y.step y.tab a).hi ≤ (corr x.step x.tab a).hi := by
  have ht := rd_tab h h0 h1
  have g := n.tab _ ht.kn
  rw [n.st]
  unfold corr
  simp only
  split
  · exact g
  · rename_i hd
    have g1 := n.tab _ (ht.kd hd)
    exact ⟨mid_le g.1 g1.1 ⟨ht.d0, ht.ds⟩, mid_le g.2 g1.2 ⟨ht.d0, ht.ds⟩⟩
theorem nar_shTo {x y : Sx} (n : Nar x y) (set k : Nat) : shTo y set k = shTo x set k := by unfold shTo; rw [n.wr, n.sh]
theorem nar_last {x y : Sx} (n : Nar x y) : last y = last x := by unfold last; rw [n.st, n.len]
theorem nar_rd {x y : Sx} (n : Nar x y) (a s : Int) : isRd y a s = isRd x a s := by unfold isRd; rw [nar_last n, n.sh]
theorem nar_read {x y : Sx} (h : GoodS x) (g : GoodS y) (n : Nar x y) (a s : Int) : (readP y a s).2 = (readP x a s).2 ∧ ((readP x a s).2 = 0 → (readP x a s).1.lo ≤ (readP y a s).1.lo ∧ (readP y a s).1.hi ≤ (readP x a s).1.hi) := by
  unfold readP
  rw [sxOk_iff.2 h, sxOk_iff.2 g, if_pos rfl, if_pos rfl, nar_rd n]
  cases hr : isRd x a s with
  | false => exact ⟨rfl, fun e => by simp at e⟩
  | true =>
    refine ⟨rfl, fun _ => ?_⟩
    obtain ⟨⟨h0, h1⟩, _⟩ := isRd_iff.1 hr
    have c := nar_corr h n h0 h1
    have e : shs y s.toNat = shs x s.toNat := by unfold shs; rw [nar_shTo n, n.sh]
    have := n.idx
    simp only [if_true]
    unfold readS
    rw [e]
    simp only [addS]
    omega
theorem nar_flt {x y : Sx} (n : Nar x y) : ∀ k, k ≤ x.tab.length → fltTo y k ≤ fltTo x k
  | 0, _ => Int.le_refl _
  | k + 1, hk => by
    have ih := nar_flt n k (by omega)
    have := n.tab k (by omega)
    rw [fltTo_succ, fltTo_succ]
    unfold wid; omega
theorem nar_fault {x y : Sx} (n : Nar x y) : fault y ≤ fault x := by
  have f := nar_flt n x.tab.length (Nat.le_refl _)
  have e1 : allSh y = allSh x := by unfold allSh; rw [n.sh]
  have e : shs y (allSh y) = shs x (allSh x) := by unfold shs; rw [e1, nar_shTo n, n.sh]
  have := n.idx
  unfold fault rest
  rw [e, n.len]
  unfold wid
  simp only [addS]
  omega
theorem classOf_mono {a b : Int} (h : a ≤ b) : classOf a ≤ classOf b := by
  unfold classOf
  repeat' split
  all_goals omega
theorem nar_good {x y : Sx} (h : GoodS x) (n : Nar x y) (hi : y.idx.lo ≤ y.idx.hi) (ht : ∀ k, k < x.tab.length → (atS y.tab k).lo ≤ (atS y.tab k).hi) : GoodS y := by
  refine ⟨by rw [n.st]; exact h.st, by rw [n.len]; exact h.len, fun s hs => ?_, by rw [n.st, n.len]; exact h.long, ?_, by rw [n.wr]; exact h.wr, by rw [n.sh]; exact h.sh, by rw [n.sh]; exact h.shade⟩
  · obtain ⟨k, hk, rfl⟩ := List.mem_iff_getElem.1 hs
    have hk' : k < x.tab.length := by rw [← n.len]; exact hk
    have e : y.tab[k] = atS y.tab k := (atS_eq (List.getElem?_eq_getElem hk)).symm
    rw [e]
    have a := h.tab _ (atS_mem hk')
    have b := n.tab k hk'
    have c := ht k hk'
    omega
  · have a := h.idx
    have b := n.idx
    omega
end Go.Os

/- Part Ofb. -/
namespace Go.Proofs.Ytjmkccckohcfkaa
open Go.RowKit Go.Pm Go.Oc Go.Oh Go.Os
set_option maxRecDepth 100000
set_option linter.unusedVariables false
set_option maxHeartbeats 4000000

theorem oTried_c (x : Sx) {sT sS : TV} (hT : IsRow Span.cs sT x.tab) (hS : IsRow Span.cs sS x.shade) (hv : sxOk x = true) {bits : List Int} {s : TV} (hb : IsRow ic s bits) (lb : bits.length ≤ 17592186044415) {tT : TV} (tS : TV) (hTt : IsRow Span.cs tT (tTab x bits x.tab.length)) {N : Nat} (hN : pickI bits 0 % 8 + 1 = N) :
    PCalls Try.prog 43 [x.t sT sS, (truthX x bits).t tT tS, s] (.sl ((trialsC x bits N).flatMap Tr.cs) N false) := by
  have h := sxOk_iff.1 hv
  obtain ⟨f, rfl⟩ := good_T h hT
  have hlen := h.len
  have hN8 : 1 ≤ N ∧ N ≤ 8 := by
    have h1 := Int.emod_nonneg (pickI bits 0) (show (8 : Int) ≠ 0 by decide)
    have h2 := Int.emod_lt_of_pos (pickI bits 0) (show (0 : Int) < 8 by decide)
    omega
  have rI := rowI_is hb
  unfold rowL at rI
  simp only [unI_nil] at rI
  have hTtl := tTab_len x bits x.tab.length
  obtain ⟨ft, rfl⟩ := hTt.ne (by rw [hTtl]; omega)
  have hvb := sxOk_iff.2 (bare_good h bits)
  have hlb := bare_last x bits
  have eb : Sx.mk (truthX x bits).step (tTab x bits x.tab.length) ⟨(truthX x bits).idx.lo, (truthX x bits).idx.hi⟩ 0 [] = bareX x bits := rfl
  have lb' : bits.length ≤ 9223372036854775806 := by omega
  have hmod : 0 < (x.tab.length : Int) ∧ (x.tab.length : Int) ≤ 9223372036854775807 := by omega
  have h6 := h.sh
  have hp := pow_len h6
  have hwr := h.wr
  have hix := h.idx
  have wN : IntKind.i64.wrap (1 + pickI bits 0 % 8) = (N : Int) := by rw [wrap_in (by omega) (by omega)]; omega
  have w0 : IntKind.i64.wrap (0 - x.wrong) = -x.wrong := by rw [wrap_in (by omega) (by omega)]; omega
  have i1 : -9223372036854775808 ≤ -x.wrong ∧ -x.wrong ≤ 9223372036854775807 := by omega
  have i2 : -9223372036854775808 ≤ x.wrong ∧ x.wrong ≤ 9223372036854775807 := by omega
  have d8 : (0 : Int) < 8 ∧ (8 : Int) ≤ 9223372036854775807 := by decide
  obtain ⟨P2, hP2⟩ : ∃ P2 : Int, (2 : Int) ^ x.shade.length = P2 := ⟨_, rfl⟩
  rw [hP2] at hp
  have hsh : IntKind.i64.wrap (1 * 2 ^ min x.shade.length 64) = P2 := by rw [Nat.min_eq_left (by omega), Int.one_mul, hP2, wrap_in (by omega) (by omega)]
  have hmod2 : 0 < P2 ∧ P2 ≤ 9223372036854775807 := by omega
  have hl0 : ¬ (x.shade.length : Int) < 0 := by omega
  have lT0 : x.tab.length ≤ 9000000000000 := by omega
  have N0 : ¬ N = 0 := by omega
  refine pcalls_by Try.mixes spOc2_ok (fn := Try.f43) Try.func43 rfl (by kernel_rfl) (by show 3 ≤ _; decide) ?_
  rcases hS with ⟨rfl, hS0⟩ | ⟨gs, rfl⟩
  · have hz : x.shade.length = 0 := by rw [hS0]; rfl
    have hP1 : P2 = 1 := by rw [← hP2, hz]; rfl
    subst hP1
    have ws0 : IntKind.i64.wrap (1 * 2 ^ min 0 64) = 1 := rfl
    have d1 : (0 : Int) < 1 ∧ (1 : Int) ≤ 9223372036854775807 := by decide
    simp (decide := true) (maxSteps := 4000000) only [go_sem, Nat.reduceAdd, Nat.reduceSub, Nat.reduceMul, Nat.reduceDiv, Nat.reduceMod, Nat.reduceLT, Nat.reduceLeDiff, Nat.reduceEqDiff, Nat.reduceBEq, Nat.reduceBNe, Nat.reduceGT, Int.reduceAdd, Int.reduceSub, Int.reduceMul, Int.reduceNeg, Int.reduceLT, Int.reduceLE, Int.reduceEq, Int.reduceNe, Int.reduceBEq, Int.reduceBNe, Int.reduceToNat, Int.reduceGT, Int.reduceGE, ↓reduceIte, decide_true, decide_false, eq_self, Nat.mul_one, Nat.zero_mul, Nat.one_mul, Int.le_refl, Nat.le_refl, Int.cast_ofNat_Int, Try.f43, Sx.t, Sx.cs]
    refine pwpC_loopU (A := { k : Nat // k ≤ N }) [2, 3, 4] (fun k => [(8, .t (.int .i64 k.1)), (7, .own ((trialsC x bits k.1).flatMap Tr.cs) k.1 2)]) (fun k => [(2, .tok k.1 84)]) (fun k => N - k.1) ⟨0, by omega⟩ (by decide) (fun _ => by rfl) ?_ fun Q1 hQ1 ⟨k, hk⟩ I1 hI1 => ?_
    · simp (decide := true) (maxSteps := 4000000) only [go_sem, Nat.reduceAdd, Nat.reduceSub, Nat.reduceMul, Nat.reduceDiv, Nat.reduceMod, Nat.reduceLT, Nat.reduceLeDiff, Nat.reduceEqDiff, Nat.reduceBEq, Nat.reduceBNe, Nat.reduceGT, Int.reduceAdd, Int.reduceSub, Int.reduceMul, Int.reduceNeg, Int.reduceLT, Int.reduceLE, Int.reduceEq, Int.reduceNe, Int.reduceBEq, Int.reduceBNe, Int.reduceToNat, Int.reduceGT, Int.reduceGE, ↓reduceIte, decide_true, decide_false, eq_self, Nat.mul_one, Nat.zero_mul, Nat.one_mul, Int.le_refl, Nat.le_refl, Int.cast_ofNat_Int, trialsC, List.range_zero, List.map_nil]
    · by_cases hlt : (k : Int) < N
      · -- a round
        obtain ⟨k1, k2⟩ := cK_b h bits k
        obtain ⟨s1, s2⟩ := cS_b h bits k
        have wb := cW_b h bits k
        have hst := trialsC_succ x bits k
        have hfl : (List.flatMap Tr.cs (trialsC x bits k)).length = k * 3 := by rw [flat_len Tr.cs (n := 3) (fun _ => rfl), trialsC_len]
        have hT0 : trialC x bits k = ⟨x.step * (cK x bits k : Int), cS x bits k, angleV (bareX x bits) (x.step * (cK x bits k : Int)) (cS x bits k) (cW x bits k) + shC x bits (cS x bits k) k x.shade.length⟩ := rfl
        have hA := angle_C h bits k1 (cS x bits k) (cW x bits k)
        have eW : chosen (-x.wrong) x.wrong (pickI bits ((k : Int) + 3)) = cW x bits k := rfl
        rw [hP2] at s1 s2
        have tv := tV_b h bits k1
        have htb := h.tab _ (atS_mem k1)
        have ab := at_b h k1
        obtain ⟨K, hK⟩ : ∃ K, cK x bits k = K := ⟨_, rfl⟩
        obtain ⟨S, hSS⟩ : ∃ S, cS x bits k = S := ⟨_, rfl⟩
        obtain ⟨W, hW⟩ : ∃ W, cW x bits k = W := ⟨_, rfl⟩
        rw [hK] at k1 k2 tv htb ab
        rw [hSS] at s1 s2
        rw [hW] at wb eW
        rw [hK, hSS, hW] at hT0 hA
        have ti := tI_b h bits
        rw [Int.mul_comm] at ab
        obtain ⟨A, hAA⟩ : ∃ A, angleV (bareX x bits) (x.step * (K : Int)) S W = A := ⟨_, rfl⟩
        rw [hAA] at hA hT0
        obtain ⟨M, hM⟩ : ∃ M, x.step * (K : Int) = M := ⟨_, rfl⟩
        rw [hM] at hA hT0 ab hAA
        have hAb : -10000 ≤ A ∧ A ≤ 520000 := by omega
        have wM : IntKind.i64.wrap M = M := wrap_in (by omega) (by omega)
        have g1 : IntKind.i64.wrap ((k : Int) + 1) = ((k : Int) + 1) := wrap_in (by omega) (by omega)
        have g2 : IntKind.i64.wrap ((k : Int) + 2) = ((k : Int) + 2) := wrap_in (by omega) (by omega)
        have g3 : IntKind.i64.wrap ((k : Int) + 3) = ((k : Int) + 3) := wrap_in (by omega) (by omega)
        have hc1 : (k : Int) + 1 = ((k + 1 : Nat) : Int) := by omega
        have wc : -60 ≤ W ∧ W ≤ 60 := by omega
        have S0 : (0 : Int) ≤ S := by omega
        have M0 : 0 ≤ M ∧ M ≤ last x := by omega
        have hr : (k + 1) * 24 ≤ 140737488355328 := by omega
        have hz0 : shC x bits S k x.shade.length = 0 := by rw [hz]; rfl
        rw [hz0, Int.add_zero] at hT0
        simp (decide := true) (maxSteps := 4000000) only [go_sem, Nat.reduceAdd, Nat.reduceSub, Nat.reduceMul, Nat.reduceDiv, Nat.reduceMod, Nat.reduceLT, Nat.reduceLeDiff, Nat.reduceEqDiff, Nat.reduceBEq, Nat.reduceBNe, Nat.reduceGT, Int.reduceAdd, Int.reduceSub, Int.reduceMul, Int.reduceNeg, Int.reduceLT, Int.reduceLE, Int.reduceEq, Int.reduceNe, Int.reduceBEq, Int.reduceBNe, Int.reduceToNat, Int.reduceGT, Int.reduceGE, ↓reduceIte, decide_true, decide_false, eq_self, Nat.mul_one, Nat.zero_mul, Nat.one_mul, Int.le_refl, Nat.le_refl, Int.cast_ofNat_Int, rI, lb', d8, wN, hlt, g1, g2, g3, hmod, ← k2, hM, wM, IntKind.bits, ← s2, hTtl, eb, hvb, hlb, M0, S0, wc, w0, i1, i2, eW, hAA, Int.toNat_natCast, lT0, ws0, d1]
        refine pwpC_loopU (A := Unit) [2, 3, 4, 7, 8, 9, 10] (fun _ => [(11, .t (.int .i64 0))]) (fun _ => []) (fun _ => 0) () (by decide) (fun _ => by rfl) ?_ fun Q2 hQ2 _ I2 hI2 => ?_
        · simp (decide := true) (maxSteps := 4000000) only [go_sem, Nat.reduceAdd, Nat.reduceSub, Nat.reduceMul, Nat.reduceDiv, Nat.reduceMod, Nat.reduceLT, Nat.reduceLeDiff, Nat.reduceEqDiff, Nat.reduceBEq, Nat.reduceBNe, Nat.reduceGT, Int.reduceAdd, Int.reduceSub, Int.reduceMul, Int.reduceNeg, Int.reduceLT, Int.reduceLE, Int.reduceEq, Int.reduceNe, Int.reduceBEq, Int.reduceBNe, Int.reduceToNat, Int.reduceGT, Int.reduceGE, ↓reduceIte, decide_true, decide_false, eq_self, Nat.mul_one, Nat.zero_mul, Nat.one_mul, Int.le_refl, Nat.le_refl, Int.cast_ofNat_Int]
        · simp (decide := true) (maxSteps := 4000000) only [go_sem, Nat.reduceAdd, Nat.reduceSub, Nat.reduceMul, Nat.reduceDiv, Nat.reduceMod, Nat.reduceLT, Nat.reduceLeDiff, Nat.reduceEqDiff, Nat.reduceBEq, Nat.reduceBNe, Nat.reduceGT, Int.reduceAdd, Int.reduceSub, Int.reduceMul, Int.reduceNeg, Int.reduceLT, Int.reduceLE, Int.reduceEq, Int.reduceNe, Int.reduceBEq, Int.reduceBNe, Int.reduceToNat, Int.reduceGT, Int.reduceGE, ↓reduceIte, decide_true, decide_false, eq_self, Nat.mul_one, Nat.zero_mul, Nat.one_mul, Int.le_refl, Nat.le_refl, Int.cast_ofNat_Int]
          refine hQ2 _ _ ?_
          simp (decide := true) (maxSteps := 4000000) only [go_sem, Nat.reduceAdd, Nat.reduceSub, Nat.reduceMul, Nat.reduceDiv, Nat.reduceMod, Nat.reduceLT, Nat.reduceLeDiff, Nat.reduceEqDiff, Nat.reduceBEq, Nat.reduceBNe, Nat.reduceGT, Int.reduceAdd, Int.reduceSub, Int.reduceMul, Int.reduceNeg, Int.reduceLT, Int.reduceLE, Int.reduceEq, Int.reduceNe, Int.reduceBEq, Int.reduceBNe, Int.reduceToNat, Int.reduceGT, Int.reduceGE, ↓reduceIte, decide_true, decide_false, eq_self, Nat.mul_one, Nat.zero_mul, Nat.one_mul, Int.le_refl, Nat.le_refl, Int.cast_ofNat_Int, hfl, hr, g1]
          refine hI1 _ ⟨k + 1, by omega⟩ (by simp only; omega) ?_
          simp (decide := true) (maxSteps := 4000000) only [go_sem, Nat.reduceAdd, Nat.reduceSub, Nat.reduceMul, Nat.reduceDiv, Nat.reduceMod, Nat.reduceLT, Nat.reduceLeDiff, Nat.reduceEqDiff, Nat.reduceBEq, Nat.reduceBNe, Nat.reduceGT, Int.reduceAdd, Int.reduceSub, Int.reduceMul, Int.reduceNeg, Int.reduceLT, Int.reduceLE, Int.reduceEq, Int.reduceNe, Int.reduceBEq, Int.reduceBNe, Int.reduceToNat, Int.reduceGT, Int.reduceGE, ↓reduceIte, decide_true, decide_false, eq_self, Nat.mul_one, Nat.zero_mul, Nat.one_mul, Int.le_refl, Nat.le_refl, Int.cast_ofNat_Int, hc1, hst, hT0, List.flatMap_append, Tr.cs, Sx.cs, hTtl]
      · have hke : k = N := by omega
        subst hke
        simp (decide := true) (maxSteps := 4000000) only [go_sem, Nat.reduceAdd, Nat.reduceSub, Nat.reduceMul, Nat.reduceDiv, Nat.reduceMod, Nat.reduceLT, Nat.reduceLeDiff, Nat.reduceEqDiff, Nat.reduceBEq, Nat.reduceBNe, Nat.reduceGT, Int.reduceAdd, Int.reduceSub, Int.reduceMul, Int.reduceNeg, Int.reduceLT, Int.reduceLE, Int.reduceEq, Int.reduceNe, Int.reduceBEq, Int.reduceBNe, Int.reduceToNat, Int.reduceGT, Int.reduceGE, ↓reduceIte, decide_true, decide_false, eq_self, Nat.mul_one, Nat.zero_mul, Nat.one_mul, Int.le_refl, Nat.le_refl, Int.cast_ofNat_Int, rI, lb', d8, wN, hlt]
        refine hQ1 _ _ ?_
        simp (decide := true) (maxSteps := 4000000) only [go_sem, Nat.reduceAdd, Nat.reduceSub, Nat.reduceMul, Nat.reduceDiv, Nat.reduceMod, Nat.reduceLT, Nat.reduceLeDiff, Nat.reduceEqDiff, Nat.reduceBEq, Nat.reduceBNe, Nat.reduceGT, Int.reduceAdd, Int.reduceSub, Int.reduceMul, Int.reduceNeg, Int.reduceLT, Int.reduceLE, Int.reduceEq, Int.reduceNe, Int.reduceBEq, Int.reduceBNe, Int.reduceToNat, Int.reduceGT, Int.reduceGE, ↓reduceIte, decide_true, decide_false, eq_self, Nat.mul_one, Nat.zero_mul, Nat.one_mul, Int.le_refl, Nat.le_refl, Int.cast_ofNat_Int, List.flatMap_nil, N0]
  · simp (decide := true) (maxSteps := 4000000) only [go_sem, Nat.reduceAdd, Nat.reduceSub, Nat.reduceMul, Nat.reduceDiv, Nat.reduceMod, Nat.reduceLT, Nat.reduceLeDiff, Nat.reduceEqDiff, Nat.reduceBEq, Nat.reduceBNe, Nat.reduceGT, Int.reduceAdd, Int.reduceSub, Int.reduceMul, Int.reduceNeg, Int.reduceLT, Int.reduceLE, Int.reduceEq, Int.reduceNe, Int.reduceBEq, Int.reduceBNe, Int.reduceToNat, Int.reduceGT, Int.reduceGE, ↓reduceIte, decide_true, decide_false, eq_self, Nat.mul_one, Nat.zero_mul, Nat.one_mul, Int.le_refl, Nat.le_refl, Int.cast_ofNat_Int, Try.f43, Sx.t, Sx.cs]
    refine pwpC_loopU (A := { k : Nat // k ≤ N }) [2, 3, 4] (fun k => [(8, .t (.int .i64 k.1)), (7, .own ((trialsC x bits k.1).flatMap Tr.cs) k.1 2)]) (fun k => [(2, .tok k.1 84)]) (fun k => N - k.1) ⟨0, by omega⟩ (by decide) (fun _ => by rfl) ?_ fun Q1 hQ1 ⟨k, hk⟩ I1 hI1 => ?_
    · simp (decide := true) (maxSteps := 4000000) only [go_sem, Nat.reduceAdd, Nat.reduceSub, Nat.reduceMul, Nat.reduceDiv, Nat.reduceMod, Nat.reduceLT, Nat.reduceLeDiff, Nat.reduceEqDiff, Nat.reduceBEq, Nat.reduceBNe, Nat.reduceGT, Int.reduceAdd, Int.reduceSub, Int.reduceMul, Int.reduceNeg, Int.reduceLT, Int.reduceLE, Int.reduceEq, Int.reduceNe, Int.reduceBEq, Int.reduceBNe, Int.reduceToNat, Int.reduceGT, Int.reduceGE, ↓reduceIte, decide_true, decide_false, eq_self, Nat.mul_one, Nat.zero_mul, Nat.one_mul, Int.le_refl, Nat.le_refl, Int.cast_ofNat_Int, trialsC, List.range_zero, List.map_nil]
    · by_cases hlt : (k : Int) < N
      · -- a round
        obtain ⟨k1, k2⟩ := cK_b h bits k
        obtain ⟨s1, s2⟩ := cS_b h bits k
        have wb := cW_b h bits k
        have hst := trialsC_succ x bits k
        have hfl : (List.flatMap Tr.cs (trialsC x bits k)).length = k * 3 := by rw [flat_len Tr.cs (n := 3) (fun _ => rfl), trialsC_len]
        have hT0 : trialC x bits k = ⟨x.step * (cK x bits k : Int), cS x bits k, angleV (bareX x bits) (x.step * (cK x bits k : Int)) (cS x bits k) (cW x bits k) + shC x bits (cS x bits k) k x.shade.length⟩ := rfl
        have hA := angle_C h bits k1 (cS x bits k) (cW x bits k)
        have eW : chosen (-x.wrong) x.wrong (pickI bits ((k : Int) + 3)) = cW x bits k := rfl
        rw [hP2] at s1 s2
        have tv := tV_b h bits k1
        have htb := h.tab _ (atS_mem k1)
        have ab := at_b h k1
        obtain ⟨K, hK⟩ : ∃ K, cK x bits k = K := ⟨_, rfl⟩
        obtain ⟨S, hSS⟩ : ∃ S, cS x bits k = S := ⟨_, rfl⟩
        obtain ⟨W, hW⟩ : ∃ W, cW x bits k = W := ⟨_, rfl⟩
        rw [hK] at k1 k2 tv htb ab
        rw [hSS] at s1 s2
        rw [hW] at wb eW
        rw [hK, hSS, hW] at hT0 hA
        have ti := tI_b h bits
        rw [Int.mul_comm] at ab
        obtain ⟨A, hAA⟩ : ∃ A, angleV (bareX x bits) (x.step * (K : Int)) S W = A := ⟨_, rfl⟩
        rw [hAA] at hA hT0
        obtain ⟨M, hM⟩ : ∃ M, x.step * (K : Int) = M := ⟨_, rfl⟩
        rw [hM] at hA hT0 ab hAA
        have hAb : -10000 ≤ A ∧ A ≤ 520000 := by omega
        have wM : IntKind.i64.wrap M = M := wrap_in (by omega) (by omega)
        have g1 : IntKind.i64.wrap ((k : Int) + 1) = ((k : Int) + 1) := wrap_in (by omega) (by omega)
        have g2 : IntKind.i64.wrap ((k : Int) + 2) = ((k : Int) + 2) := wrap_in (by omega) (by omega)
        have g3 : IntKind.i64.wrap ((k : Int) + 3) = ((k : Int) + 3) := wrap_in (by omega) (by omega)
        have hc1 : (k : Int) + 1 = ((k + 1 : Nat) : Int) := by omega
        have wc : -60 ≤ W ∧ W ≤ 60 := by omega
        have S0 : (0 : Int) ≤ S := by omega
        have M0 : 0 ≤ M ∧ M ≤ last x := by omega
        have hr : (k + 1) * 24 ≤ 140737488355328 := by omega
        have hsb := fun j (hj : j ≤ x.shade.length) => shC_b h bits S k hj
        simp (decide := true) (maxSteps := 4000000) only [go_sem, Nat.reduceAdd, Nat.reduceSub, Nat.reduceMul, Nat.reduceDiv, Nat.reduceMod, Nat.reduceLT, Nat.reduceLeDiff, Nat.reduceEqDiff, Nat.reduceBEq, Nat.reduceBNe, Nat.reduceGT, Int.reduceAdd, Int.reduceSub, Int.reduceMul, Int.reduceNeg, Int.reduceLT, Int.reduceLE, Int.reduceEq, Int.reduceNe, Int.reduceBEq, Int.reduceBNe, Int.reduceToNat, Int.reduceGT, Int.reduceGE, ↓reduceIte, decide_true, decide_false, eq_self, Nat.mul_one, Nat.zero_mul, Nat.one_mul, Int.le_refl, Nat.le_refl, Int.cast_ofNat_Int, rI, lb', d8, wN, hlt, g1, g2, g3, hmod, ← k2, hM, wM, IntKind.bits, ← s2, hTtl, eb, hvb, hlb, M0, S0, wc, w0, i1, i2, eW, hAA, Int.toNat_natCast, lT0, hsh, hmod2, hl0]
        refine pwpC_loopU (A := { j : Nat // j ≤ x.shade.length }) [2, 3, 4, 7, 8, 9] (fun j => [(11, .t (.int .i64 j.1)), (10, .t (.int .i64 (A + shC x bits S k j.1)))]) (fun _ => []) (fun j => x.shade.length - j.1) ⟨0, by omega⟩ (by decide) (fun _ => by rfl) ?_ fun Q2 hQ2 ⟨j, hj⟩ I2 hI2 => ?_
        · simp (decide := true) (maxSteps := 4000000) only [go_sem, Nat.reduceAdd, Nat.reduceSub, Nat.reduceMul, Nat.reduceDiv, Nat.reduceMod, Nat.reduceLT, Nat.reduceLeDiff, Nat.reduceEqDiff, Nat.reduceBEq, Nat.reduceBNe, Nat.reduceGT, Int.reduceAdd, Int.reduceSub, Int.reduceMul, Int.reduceNeg, Int.reduceLT, Int.reduceLE, Int.reduceEq, Int.reduceNe, Int.reduceBEq, Int.reduceBNe, Int.reduceToNat, Int.reduceGT, Int.reduceGE, ↓reduceIte, decide_true, decide_false, eq_self, Nat.mul_one, Nat.zero_mul, Nat.one_mul, Int.le_refl, Nat.le_refl, Int.cast_ofNat_Int, shC, List.range_zero, List.foldl_nil, Int.add_zero]
        · by_cases hlj : (j : Int) < x.shade.length
          · obtain ⟨sp, hs⟩ := get_lt hlj
            have hd := flat_at Span.cs (n := 2) (fun _ => rfl) hs
            have hes := atS_eq hs
            have hsp := h.shade sp (List.mem_of_getElem? hs)
            have hnx := shC_succ x bits S k j
            rw [hes] at hnx
            have b1 := hsb j hj
            have b2 := hsb (j + 1) (by omega)
            have q1 : IntKind.i64.wrap ((k : Int) + (j : Int)) = (k : Int) + (j : Int) := wrap_in (by omega) (by omega)
            have q2 : IntKind.i64.wrap ((k : Int) + (j : Int) + 4) = (k : Int) + (j : Int) + 4 := wrap_in (by omega) (by omega)
            have q3 : IntKind.i64.wrap ((j : Int) + 1) = ((j + 1 : Nat) : Int) := by rw [wrap_in (by omega) (by omega)]; omega
            have k64 : (0 : Int) ≤ j ∧ (j : Int) < 64 := by omega
            have p1 : -9223372036854775808 ≤ sp.lo ∧ sp.lo ≤ 9223372036854775807 := by omega
            have p2 : -9223372036854775808 ≤ sp.hi ∧ sp.hi ≤ 9223372036854775807 := by omega
            have cm := chosen_mem (pickI bits ((k : Int) + (j : Int) + 4)) hsp.2.1
            obtain ⟨CH, hCH⟩ : ∃ c, chosen sp.lo sp.hi (pickI bits ((k : Int) + (j : Int) + 4)) = c := ⟨_, rfl⟩
            rw [hCH] at hnx cm
            have q4 : IntKind.i64.wrap (A + shC x bits S k j + CH) = A + (shC x bits S k j + CH) := by rw [wrap_in (by omega) (by omega)]; omega
            cases hbt : S.testBit j with
            | false =>
              rw [hbt] at hnx
              simp (decide := true) (maxSteps := 4000000) only [go_sem, Nat.reduceAdd, Nat.reduceSub, Nat.reduceMul, Nat.reduceDiv, Nat.reduceMod, Nat.reduceLT, Nat.reduceLeDiff, Nat.reduceEqDiff, Nat.reduceBEq, Nat.reduceBNe, Nat.reduceGT, Int.reduceAdd, Int.reduceSub, Int.reduceMul, Int.reduceNeg, Int.reduceLT, Int.reduceLE, Int.reduceEq, Int.reduceNe, Int.reduceBEq, Int.reduceBNe, Int.reduceToNat, Int.reduceGT, Int.reduceGE, ↓reduceIte, decide_true, decide_false, eq_self, Nat.mul_one, Nat.zero_mul, Nat.one_mul, Int.le_refl, Nat.le_refl, Int.cast_ofNat_Int, hlj, k64, S0, Int.toNat_natCast, hbt, Sx.cs]
              refine hI2 _ ⟨j + 1, by omega⟩ (by simp only; omega) ?_
              simp (decide := true) (maxSteps := 4000000) only [go_sem, Nat.reduceAdd, Nat.reduceSub, Nat.reduceMul, Nat.reduceDiv, Nat.reduceMod, Nat.reduceLT, Nat.reduceLeDiff, Nat.reduceEqDiff, Nat.reduceBEq, Nat.reduceBNe, Nat.reduceGT, Int.reduceAdd, Int.reduceSub, Int.reduceMul, Int.reduceNeg, Int.reduceLT, Int.reduceLE, Int.reduceEq, Int.reduceNe, Int.reduceBEq, Int.reduceBNe, Int.reduceToNat, Int.reduceGT, Int.reduceGE, ↓reduceIte, decide_true, decide_false, eq_self, Nat.mul_one, Nat.zero_mul, Nat.one_mul, Int.le_refl, Nat.le_refl, Int.cast_ofNat_Int, q3, hnx, Sx.cs]
            | true =>
              rw [hbt] at hnx
              simp (decide := true) (maxSteps := 4000000) only [go_sem, Nat.reduceAdd, Nat.reduceSub, Nat.reduceMul, Nat.reduceDiv, Nat.reduceMod, Nat.reduceLT, Nat.reduceLeDiff, Nat.reduceEqDiff, Nat.reduceBEq, Nat.reduceBNe, Nat.reduceGT, Int.reduceAdd, Int.reduceSub, Int.reduceMul, Int.reduceNeg, Int.reduceLT, Int.reduceLE, Int.reduceEq, Int.reduceNe, Int.reduceBEq, Int.reduceBNe, Int.reduceToNat, Int.reduceGT, Int.reduceGE, ↓reduceIte, decide_true, decide_false, eq_self, Nat.mul_one, Nat.zero_mul, Nat.one_mul, Int.le_refl, Nat.le_refl, Int.cast_ofNat_Int, hlj, k64, S0, Int.toNat_natCast, hbt, hd, Span.cs, rI, lb', q1, q2, p1, p2, hCH, q4, Sx.cs]
              refine hI2 _ ⟨j + 1, by omega⟩ (by simp only; omega) ?_
              simp (decide := true) (maxSteps := 4000000) only [go_sem, Nat.reduceAdd, Nat.reduceSub, Nat.reduceMul, Nat.reduceDiv, Nat.reduceMod, Nat.reduceLT, Nat.reduceLeDiff, Nat.reduceEqDiff, Nat.reduceBEq, Nat.reduceBNe, Nat.reduceGT, Int.reduceAdd, Int.reduceSub, Int.reduceMul, Int.reduceNeg, Int.reduceLT, Int.reduceLE, Int.reduceEq, Int.reduceNe, Int.reduceBEq, Int.reduceBNe, Int.reduceToNat, Int.reduceGT, Int.reduceGE, ↓reduceIte, decide_true, decide_false, eq_self, Nat.mul_one, Nat.zero_mul, Nat.one_mul, Int.le_refl, Nat.le_refl, Int.cast_ofNat_Int, q3, hnx, Sx.cs]
          · have hje : j = x.shade.length := by omega
            subst hje
            simp (decide := true) (maxSteps := 4000000) only [go_sem, Nat.reduceAdd, Nat.reduceSub, Nat.reduceMul, Nat.reduceDiv, Nat.reduceMod, Nat.reduceLT, Nat.reduceLeDiff, Nat.reduceEqDiff, Nat.reduceBEq, Nat.reduceBNe, Nat.reduceGT, Int.reduceAdd, Int.reduceSub, Int.reduceMul, Int.reduceNeg, Int.reduceLT, Int.reduceLE, Int.reduceEq, Int.reduceNe, Int.reduceBEq, Int.reduceBNe, Int.reduceToNat, Int.reduceGT, Int.reduceGE, ↓reduceIte, decide_true, decide_false, eq_self, Nat.mul_one, Nat.zero_mul, Nat.one_mul, Int.le_refl, Nat.le_refl, Int.cast_ofNat_Int, hlj]
            refine hQ2 _ _ ?_
            simp (decide := true) (maxSteps := 4000000) only [go_sem, Nat.reduceAdd, Nat.reduceSub, Nat.reduceMul, Nat.reduceDiv, Nat.reduceMod, Nat.reduceLT, Nat.reduceLeDiff, Nat.reduceEqDiff, Nat.reduceBEq, Nat.reduceBNe, Nat.reduceGT, Int.reduceAdd, Int.reduceSub, Int.reduceMul, Int.reduceNeg, Int.reduceLT, Int.reduceLE, Int.reduceEq, Int.reduceNe, Int.reduceBEq, Int.reduceBNe, Int.reduceToNat, Int.reduceGT, Int.reduceGE, ↓reduceIte, decide_true, decide_false, eq_self, Nat.mul_one, Nat.zero_mul, Nat.one_mul, Int.le_refl, Nat.le_refl, Int.cast_ofNat_Int, hfl, hr, g1]
            refine hI1 _ ⟨k + 1, by omega⟩ (by simp only; omega) ?_
            simp (decide := true) (maxSteps := 4000000) only [go_sem, Nat.reduceAdd, Nat.reduceSub, Nat.reduceMul, Nat.reduceDiv, Nat.reduceMod, Nat.reduceLT, Nat.reduceLeDiff, Nat.reduceEqDiff, Nat.reduceBEq, Nat.reduceBNe, Nat.reduceGT, Int.reduceAdd, Int.reduceSub, Int.reduceMul, Int.reduceNeg, Int.reduceLT, Int.reduceLE, Int.reduceEq, Int.reduceNe, Int.reduceBEq, Int.reduceBNe, Int.reduceToNat, Int.reduceGT, Int.reduceGE, ↓reduceIte, decide_true, decide_false, eq_self, Nat.mul_one, Nat.zero_mul, Nat.one_mul, Int.le_refl, Nat.le_refl, Int.cast_ofNat_Int, hc1, hst, hT0, List.flatMap_append, Tr.cs, Sx.cs, hTtl]
      · have hke : k = N := by omega
        subst hke
        simp (decide := true) (maxSteps := 4000000) only [go_sem, Nat.reduceAdd, Nat.reduceSub, Nat.reduceMul, Nat.reduceDiv, Nat.reduceMod, Nat.reduceLT, Nat.reduceLeDiff, Nat.reduceEqDiff, Nat.reduceBEq, Nat.reduceBNe, Nat.reduceGT, Int.reduceAdd, Int.reduceSub, Int.reduceMul, Int.reduceNeg, Int.reduceLT, Int.reduceLE, Int.reduceEq, Int.reduceNe, Int.reduceBEq, Int.reduceBNe, Int.reduceToNat, Int.reduceGT, Int.reduceGE, ↓reduceIte, decide_true, decide_false, eq_self, Nat.mul_one, Nat.zero_mul, Nat.one_mul, Int.le_refl, Nat.le_refl, Int.cast_ofNat_Int, rI, lb', d8, wN, hlt]
        refine hQ1 _ _ ?_
        simp (decide := true) (maxSteps := 4000000) only [go_sem, Nat.reduceAdd, Nat.reduceSub, Nat.reduceMul, Nat.reduceDiv, Nat.reduceMod, Nat.reduceLT, Nat.reduceLeDiff, Nat.reduceEqDiff, Nat.reduceBEq, Nat.reduceBNe, Nat.reduceGT, Int.reduceAdd, Int.reduceSub, Int.reduceMul, Int.reduceNeg, Int.reduceLT, Int.reduceLE, Int.reduceEq, Int.reduceNe, Int.reduceBEq, Int.reduceBNe, Int.reduceToNat, Int.reduceGT, Int.reduceGE, ↓reduceIte, decide_true, decide_false, eq_self, Nat.mul_one, Nat.zero_mul, Nat.one_mul, Int.le_refl, Nat.le_refl, Int.cast_ofNat_Int, List.flatMap_nil, N0]
end Go.Proofs.Ytjmkccckohcfkaa

/- Part Of. -/
namespace Go.Proofs.Ytjmkccckohcfkaa
open Go.RowKit Go.Pm Go.Oc Go.Oh Go.Os
set_option maxRecDepth 100000
set_option linter.unusedVariables false
set_option maxHeartbeats 4000000

noncomputable def xoTried : List TV → Option TV
  | [.agg [.int .i64 a0, sT, .int .i64 a1, .int .i64 a2, .int .i64 a3, sS], .agg [.int .i64 b0, tT, .int .i64 b1, .int .i64 b2, .int .i64 b3, tS], s] => match rowL unS sT, rowL unS sS, rowL unI s, rowL unS tT with
    | some tab, some shade, some l, some tb => if sxOk ⟨a0, tab, ⟨a1, a2⟩, a3, shade⟩ = true ∧ l.length ≤ 17592186044415 ∧ tb = tTab ⟨a0, tab, ⟨a1, a2⟩, a3, shade⟩ l tab.length ∧ b0 = a0 ∧ b1 = (tCh l ⟨a1, a2⟩ 7).lo ∧ b2 = (tCh l ⟨a1, a2⟩ 7).lo ∧ b3 = a3 then some (.sl ((trialsC ⟨a0, tab, ⟨a1, a2⟩, a3, shade⟩ l (pickI l 0 % 8 + 1).toNat).flatMap Tr.cs) (pickI l 0 % 8 + 1).toNat false) else none
    | _, _, _, _ => none
  | _ => none
theorem xoTried_ok : ∀ xs r, xoTried xs = some r → PCalls Try.prog 43 xs r := by
  intro xs r h
  unfold xoTried at h
  split at h
  · split at h
    · rename_i tab shade l tb hT hS hl hTt
      have hT := rowL_some (un := unS) unS_nil (@unS_some) hT
      have hS := rowL_some (un := unS) unS_nil (@unS_some) hS
      have hl := rowL_some (un := unI) unI_nil (@unI_some) hl
      have hTt := rowL_some (un := unS) unS_nil (@unS_some) hTt
      split at h
      · rename_i hc; cases h
        obtain ⟨h1, h2, rfl, rfl, rfl, rfl, rfl⟩ := hc
        refine oTried_c ⟨_, tab, ⟨_, _⟩, _, shade⟩ hT hS h1 hl h2 _ hTt ?_
        have h1 := Int.emod_nonneg (pickI l 0) (show (8 : Int) ≠ 0 by decide)
        omega
      · cases h
    · cases h
  · cases h
attribute [go_sem] xoTried
noncomputable def spOf : Pm.Spec := spOc2.one 43 xoTried
@[go_sem] theorem spOf_p (f : FuncId) (xs : List TV) : spOf.p f xs = Pm.Spec.p (spOc2.one 43 xoTried) f xs := rfl
@[go_sem] theorem spOf_h (f : FuncId) (ps : List PV) (hl : List PO) : spOf.h f ps hl = Pm.Spec.h (spOc2.one 43 xoTried) f ps hl := rfl
@[go_sem] theorem spOf_fz (f : FuncId) : spOf.fz f = Pm.Spec.fz (spOc2.one 43 xoTried) f := rfl
@[go_sem] theorem spOf_fr (f : FuncId) : spOf.fr f = Pm.Spec.fr (spOc2.one 43 xoTried) f := rfl
@[go_sem] theorem spOf_mu (t : TypeId) : spOf.mu t = Pm.Spec.mu (spOc2.one 43 xoTried) t := rfl
@[go_sem] theorem spOf_nf (t : TypeId) : spOf.nf t = Pm.Spec.nf (spOc2.one 43 xoTried) t := rfl
theorem spOf_ok : SpecOk Try.prog spOf := Spec.one_ok xoTried_ok spOc2_ok
theorem SextantTried_c (x : Sx) {sT sS : TV} (hT : IsRow Span.cs sT x.tab) (hS : IsRow Span.cs sS x.shade) (lT : x.tab.length ≤ 9000000000000) (lS : x.shade.length ≤ 9000000000000) (a s : Int) {bits : List Int} {u : TV} (hb : IsRow ic u bits) (lb : bits.length ≤ 17592186044415) (_ : ∀ n ∈ bits, -9223372036854775808 ≤ n ∧ n ≤ 9223372036854775807) : PCalls Try.prog 10 [x.t sT sS, .agg [.int .i64 a, .int .i64 s], u] (.bool true) := by
  have rT := rowS_is hT
  have rS := rowS_is hS
  have rI := rowI_is hb
  unfold rowL at rT rS rI
  simp only [unS_nil] at rT rS
  simp only [unI_nil] at rI
  have e0 : Sx.mk x.step x.tab ⟨x.idx.lo, x.idx.hi⟩ x.wrong x.shade = x := rfl
  refine pcalls_by Try.mixes spOf_ok (fn := Try.f10) Try.func10 rfl (by kernel_rfl) (by show 3 ≤ _; decide) ?_
  cases hv : sxOk x with
  | false => simp (decide := true) (maxSteps := 4000000) only [go_sem, Nat.reduceAdd, Nat.reduceSub, Nat.reduceMul, Nat.reduceDiv, Nat.reduceMod, Nat.reduceLT, Nat.reduceLeDiff, Nat.reduceEqDiff, Nat.reduceBEq, Nat.reduceBNe, Nat.reduceGT, Int.reduceAdd, Int.reduceSub, Int.reduceMul, Int.reduceNeg, Int.reduceLT, Int.reduceLE, Int.reduceEq, Int.reduceNe, Int.reduceBEq, Int.reduceBNe, Int.reduceToNat, Int.reduceGT, Int.reduceGE, ↓reduceIte, decide_true, decide_false, eq_self, Nat.mul_one, Nat.zero_mul, Nat.one_mul, Int.le_refl, Nat.le_refl, Int.cast_ofNat_Int, Try.f10, Sx.t, Sx.cs, rT, rS, lT, lS, e0, hv]
  | true =>
    have h := sxOk_iff.1 hv
    obtain ⟨f, rfl⟩ := good_T h hT
    have hlen := h.len
    have rT := unS_eq x.tab
    have hm0 := Int.emod_nonneg (pickI bits 0) (show (8 : Int) ≠ 0 by decide)
    have hm1 := Int.emod_lt_of_pos (pickI bits 0) (show (0 : Int) < 8 by decide)
    obtain ⟨N, hN⟩ : ∃ N, (pickI bits 0 % 8 + 1).toNat = N := ⟨_, rfl⟩
    have hN8 : 1 ≤ N ∧ N ≤ 8 := by omega
    have hN9 : N ≤ 9000000000000 := by omega
    obtain ⟨T, J, hTr, hFa, hTl, hJ, hJx, hTT⟩ := trial_C h bits hN8.1 hN8.2
    have hLl := trialsC_len x bits N
    obtain ⟨L, hL⟩ : ∃ L, trialsC x bits N = L := ⟨_, rfl⟩
    rw [hL] at hTr hFa hLl
    obtain ⟨I, hI⟩ : ∃ I, tI x bits = I := ⟨_, rfl⟩
    rw [hI] at hJ
    have t0 : (tCh bits x.idx 7).lo = I := hI
    have t1 : (truthX x bits).step = x.step := rfl
    have t2 : (truthX x bits).idx.lo = I := hI
    have t3 : (truthX x bits).idx.hi = I := hI
    have t4 : (truthX x bits).wrong = x.wrong := rfl
    have ei : Span.mk x.idx.lo x.idx.hi = x.idx := rfl
    have hTtl := tTab_len x bits x.tab.length
    have hn0 : ¬ x.tab.length = 0 := by omega
    have hTb : ∀ k, k < x.tab.length → (tTab x bits x.tab.length)[k]? = some (tCh bits (atS x.tab k) k) := fun k hk => by
      unfold tTab; rw [List.getElem?_map, List.getElem?_range hk]; rfl
    obtain ⟨B, hB⟩ : ∃ B, tTab x bits x.tab.length = B := ⟨_, rfl⟩
    rw [hB] at hTtl hTb
    have hro : rowO B = .sl (B.flatMap Span.cs) x.tab.length false := by unfold rowO; rw [hTtl, if_neg hn0]
    have rB := unS_eq B
    have hrF : rowF1 T = .sl (T.flatMap Span.cs) x.tab.length true := by unfold rowF1; rw [hTl, if_neg hn0]
    have n0 : rowI (nI []) = .nilSl := rfl
    have hinJ : inB I J.lo J.hi = true := inB_iff.2 hJ
    have nl1 : ¬ J.lo < x.idx.lo := by omega
    have nl2 : ¬ J.hi > x.idx.hi := by omega
    obtain ⟨Y, hY⟩ : ∃ Y, Sx.mk x.step T J x.wrong x.shade = Y := ⟨_, rfl⟩
    have eY : Sx.mk x.step T ⟨J.lo, J.hi⟩ x.wrong x.shade = Y := hY
    have hnar : Nar x Y := by
      rw [← hY]
      exact ⟨rfl, hTl, fun k hk => (hTT k hk).2, hJx, rfl, rfl⟩
    have hYg : GoodS Y := nar_good h hnar (by rw [← hY]; show J.lo ≤ J.hi; omega) (fun k hk => by
      have := (hTT k hk).1
      rw [← hY]; show (atS T k).lo ≤ (atS T k).hi; omega)
    have hYv := sxOk_iff.2 hYg
    obtain ⟨hRe, hRi⟩ := nar_read h hYg hnar a s
    have hFl := nar_fault hnar
    have hCl := classOf_mono hFl
    have hCx : classP x = (classOf (fault x), fault x, 0) := by unfold classP; rw [if_pos hv]
    have hCy : classP Y = (classOf (fault Y), fault Y, 0) := by unfold classP; rw [if_pos hYv]
    obtain ⟨R, hR⟩ : ∃ R, readP x a s = R := ⟨_, rfl⟩
    obtain ⟨R', hR'⟩ : ∃ R', readP Y a s = R' := ⟨_, rfl⟩
    rw [hR, hR'] at hRe hRi
    obtain ⟨r, e⟩ := R
    obtain ⟨r', e'⟩ := R'
    simp only at hRe hRi
    subst hRe
    obtain ⟨F1, hF1⟩ : ∃ F, fault x = F := ⟨_, rfl⟩
    obtain ⟨F2, hF2⟩ : ∃ F, fault Y = F := ⟨_, rfl⟩
    rw [hF1, hF2] at hFl hCl
    rw [hF1] at hCx
    rw [hF2] at hCy
    obtain ⟨C1, hC1⟩ : ∃ C, classOf F1 = C := ⟨_, rfl⟩
    obtain ⟨C2, hC2⟩ : ∃ C, classOf F2 = C := ⟨_, rfl⟩
    rw [hC1, hC2] at hCl
    rw [hC1] at hCx
    rw [hC2] at hCy
    have b0 : ((0 : Int) != 0) = false := rfl
    have b4 : ((4 : Int) != 4) = false := rfl
    simp (decide := true) (maxSteps := 4000000) only [go_sem, Nat.reduceAdd, Nat.reduceSub, Nat.reduceMul, Nat.reduceDiv, Nat.reduceMod, Nat.reduceLT, Nat.reduceLeDiff, Nat.reduceEqDiff, Nat.reduceBEq, Nat.reduceBNe, Nat.reduceGT, Int.reduceAdd, Int.reduceSub, Int.reduceMul, Int.reduceNeg, Int.reduceLT, Int.reduceLE, Int.reduceEq, Int.reduceNe, Int.reduceBEq, Int.reduceBNe, Int.reduceToNat, Int.reduceGT, Int.reduceGE, ↓reduceIte, decide_true, decide_false, eq_self, Nat.mul_one, Nat.zero_mul, Nat.one_mul, Int.le_refl, Nat.le_refl, Int.cast_ofNat_Int, Try.f10, Sx.t, Sx.cs, rT, rS, rI, lT, lS, e0, hv, lb, t0, t1, t2, t3, t4, ei, hB, hTtl, hro, rB, hN, hL, hLl, unTr_eq, hN9, hTr, hFa, hrF, n0, hTl, hinJ, nl1, nl2, b0, b4, Span.t, Span.cs, Bool.not_true, bne_self_eq_false]
    refine pwpC_loopU (A := { k : Nat // k ≤ x.tab.length }) [3, 4, 7, 9, 10] (fun k => [(14, .t (.int .i64 k.1))]) (fun _ => []) (fun k => x.tab.length - k.1) ⟨0, by omega⟩ (by decide) (fun _ => by rfl) ?_ fun Q1 hQ1 ⟨k, hk⟩ I1 hI1 => ?_
    · simp (decide := true) (maxSteps := 4000000) only [go_sem, Nat.reduceAdd, Nat.reduceSub, Nat.reduceMul, Nat.reduceDiv, Nat.reduceMod, Nat.reduceLT, Nat.reduceLeDiff, Nat.reduceEqDiff, Nat.reduceBEq, Nat.reduceBNe, Nat.reduceGT, Int.reduceAdd, Int.reduceSub, Int.reduceMul, Int.reduceNeg, Int.reduceLT, Int.reduceLE, Int.reduceEq, Int.reduceNe, Int.reduceBEq, Int.reduceBNe, Int.reduceToNat, Int.reduceGT, Int.reduceGE, ↓reduceIte, decide_true, decide_false, eq_self, Nat.mul_one, Nat.zero_mul, Nat.one_mul, Int.le_refl, Nat.le_refl, Int.cast_ofNat_Int]
    · by_cases hlt : (k : Int) < x.tab.length
      · have hkl : k < x.tab.length := by omega
        obtain ⟨t, ht⟩ := get_lt (l := x.tab) (k := k) hlt
        obtain ⟨n, hn⟩ := get_lt (l := T) (k := k) (by omega)
        have hbk := hTb k hkl
        have d1 := flat_at Span.cs (n := 2) (fun _ => rfl) ht
        have d2 := flat_at Span.cs (n := 2) (fun _ => rfl) hn
        have d3 := flat_at Span.cs (n := 2) (fun _ => rfl) hbk
        have hq := hTT k hkl
        have hc1 : IntKind.i64.wrap (k + 1) = ((k + 1 : Nat) : Int) := by rw [wrap_in (by omega) (by omega)]; omega
        have ev : tV x bits k = (tCh bits (atS x.tab k) k).lo := rfl
        rw [atS_eq hn, atS_eq ht, ev, atS_eq ht] at hq
        rw [atS_eq ht] at d3
        obtain ⟨V, hV⟩ : ∃ V, tCh bits t k = V := ⟨_, rfl⟩
        rw [hV] at hq d3
        have hin : inB V.lo n.lo n.hi = true := inB_iff.2 hq.1
        have nk1 : ¬ n.lo < t.lo := by omega
        have nk2 : ¬ n.hi > t.hi := by omega
        simp (decide := true) (maxSteps := 4000000) only [go_sem, Nat.reduceAdd, Nat.reduceSub, Nat.reduceMul, Nat.reduceDiv, Nat.reduceMod, Nat.reduceLT, Nat.reduceLeDiff, Nat.reduceEqDiff, Nat.reduceBEq, Nat.reduceBNe, Nat.reduceGT, Int.reduceAdd, Int.reduceSub, Int.reduceMul, Int.reduceNeg, Int.reduceLT, Int.reduceLE, Int.reduceEq, Int.reduceNe, Int.reduceBEq, Int.reduceBNe, Int.reduceToNat, Int.reduceGT, Int.reduceGE, ↓reduceIte, decide_true, decide_false, eq_self, Nat.mul_one, Nat.zero_mul, Nat.one_mul, Int.le_refl, Nat.le_refl, Int.cast_ofNat_Int, hlt, d1, d2, d3, Span.cs, Int.toNat_natCast, hin, nk1, nk2, Bool.not_true, Sx.cs]
        refine hI1 _ ⟨k + 1, by omega⟩ (by simp only; omega) ?_
        simp (decide := true) (maxSteps := 4000000) only [go_sem, Nat.reduceAdd, Nat.reduceSub, Nat.reduceMul, Nat.reduceDiv, Nat.reduceMod, Nat.reduceLT, Nat.reduceLeDiff, Nat.reduceEqDiff, Nat.reduceBEq, Nat.reduceBNe, Nat.reduceGT, Int.reduceAdd, Int.reduceSub, Int.reduceMul, Int.reduceNeg, Int.reduceLT, Int.reduceLE, Int.reduceEq, Int.reduceNe, Int.reduceBEq, Int.reduceBNe, Int.reduceToNat, Int.reduceGT, Int.reduceGE, ↓reduceIte, decide_true, decide_false, eq_self, Nat.mul_one, Nat.zero_mul, Nat.one_mul, Int.le_refl, Nat.le_refl, Int.cast_ofNat_Int, hc1, Sx.cs, Span.cs]
      · have hke : k = x.tab.length := by omega
        subst hke
        have rTT := unS_eq T
        simp (decide := true) (maxSteps := 4000000) only [go_sem, Nat.reduceAdd, Nat.reduceSub, Nat.reduceMul, Nat.reduceDiv, Nat.reduceMod, Nat.reduceLT, Nat.reduceLeDiff, Nat.reduceEqDiff, Nat.reduceBEq, Nat.reduceBNe, Nat.reduceGT, Int.reduceAdd, Int.reduceSub, Int.reduceMul, Int.reduceNeg, Int.reduceLT, Int.reduceLE, Int.reduceEq, Int.reduceNe, Int.reduceBEq, Int.reduceBNe, Int.reduceToNat, Int.reduceGT, Int.reduceGE, ↓reduceIte, decide_true, decide_false, eq_self, Nat.mul_one, Nat.zero_mul, Nat.one_mul, Int.le_refl, Nat.le_refl, Int.cast_ofNat_Int, hlt]
        refine hQ1 _ _ ?_
        by_cases he : e' = 0
        · subst he
          have hri := hRi rfl
          have g1 : r'.lo ≥ r.lo := hri.1
          have g2 : r'.hi ≤ r.hi := hri.2
          simp (decide := true) (maxSteps := 4000000) only [go_sem, Nat.reduceAdd, Nat.reduceSub, Nat.reduceMul, Nat.reduceDiv, Nat.reduceMod, Nat.reduceLT, Nat.reduceLeDiff, Nat.reduceEqDiff, Nat.reduceBEq, Nat.reduceBNe, Nat.reduceGT, Int.reduceAdd, Int.reduceSub, Int.reduceMul, Int.reduceNeg, Int.reduceLT, Int.reduceLE, Int.reduceEq, Int.reduceNe, Int.reduceBEq, Int.reduceBNe, Int.reduceToNat, Int.reduceGT, Int.reduceGE, ↓reduceIte, decide_true, decide_false, eq_self, Nat.mul_one, Nat.zero_mul, Nat.one_mul, Int.le_refl, Nat.le_refl, Int.cast_ofNat_Int, Sx.cs, rT, rS, rTT, hTl, lT, lS, e0, eY, hR, hR', hCx, hCy, hCl, hFl, g1, g2, b0, Span.t, Span.cs]
        · have b1 : (e' != 0) = true := by simpa using he
          simp (decide := true) (maxSteps := 4000000) only [go_sem, Nat.reduceAdd, Nat.reduceSub, Nat.reduceMul, Nat.reduceDiv, Nat.reduceMod, Nat.reduceLT, Nat.reduceLeDiff, Nat.reduceEqDiff, Nat.reduceBEq, Nat.reduceBNe, Nat.reduceGT, Int.reduceAdd, Int.reduceSub, Int.reduceMul, Int.reduceNeg, Int.reduceLT, Int.reduceLE, Int.reduceEq, Int.reduceNe, Int.reduceBEq, Int.reduceBNe, Int.reduceToNat, Int.reduceGT, Int.reduceGE, ↓reduceIte, decide_true, decide_false, eq_self, Nat.mul_one, Nat.zero_mul, Nat.one_mul, Int.le_refl, Nat.le_refl, Int.cast_ofNat_Int, Sx.cs, rT, rS, rTT, hTl, lT, lS, e0, eY, hR, hR', hCx, hCy, hCl, hFl, b1, b0, Span.t, Span.cs]
end Go.Proofs.Ytjmkccckohcfkaa

/- Part Ox. -/
namespace Go.Proofs.Ytjmkccckohcfkaa
open Go.RowKit Go.Pm Go.Oc Go.Oh Go.Os
set_option maxRecDepth 100000
set_option linter.unusedVariables false

theorem slice_cells {k : Nat} {t e : TypeId} {cs : List TV} (hu : Program.underlying Try.prog t = some (.slice e)) (h : cellsOk Try.prog (k + 1) t cs) : ∃ x, cs = [x] ∧ cellsOk Try.prog (k + 1) t [x] := by
  have h' := h
  unfold cellsOk at h'
  rw [hu] at h'
  rcases h' with h' | ⟨rows, full, h', _⟩
  · exact ⟨_, h', by rw [← h']; exact h⟩
  · exact ⟨_, h', by rw [← h']; exact h⟩
theorem int_cells {k : Nat} {cs : List TV} (h : cellsOk Try.prog (k + 1) 3 cs) : ∃ n, cs = [.int .i64 n] ∧ -9223372036854775808 ≤ n ∧ n ≤ 9223372036854775807 := cellsOk_i64 (by kernel_rfl) h
theorem span_cells {k : Nat} {cs : List TV} (h : cellsOk Try.prog (k + 2) 24 cs) : ∃ s : Span, cs = s.cs ∧ (-9223372036854775808 ≤ s.lo ∧ s.lo ≤ 9223372036854775807) ∧ -9223372036854775808 ≤ s.hi ∧ s.hi ≤ 9223372036854775807 := by
  have h := cellsOk_tys (ts := [3, 3]) (by kernel_rfl) h
  obtain ⟨_, r, rfl, h1, h⟩ := seqOk_cons h
  obtain ⟨_, r, rfl, h2, h⟩ := seqOk_cons h
  cases seqOk_nil h
  obtain ⟨a, rfl, ha⟩ := int_cells h1
  obtain ⟨b, rfl, hb⟩ := int_cells h2
  exact ⟨⟨a, b⟩, rfl, ha, hb⟩
theorem ints_cells {x : TV} {k : Nat} (h : cellsOk Try.prog (k + 2) 45 [x]) : ∃ l : List Int, IsRow ic x l ∧ l.length ≤ 17592186044415 ∧ ∀ n ∈ l, -9223372036854775808 ≤ n ∧ n ≤ 9223372036854775807 := by
  obtain ⟨l, h1, h2, h3, _⟩ := cellsOk_row (e := 3) (c := ic) (p := fun n => -9223372036854775808 ≤ n ∧ n ≤ 9223372036854775807) (by kernel_rfl) (fun cs hc => int_cells hc) h
  rw [show Program.bytesOf Try.prog 3 = 8 by kernel_rfl] at h3
  unfold reachBytes at h3
  exact ⟨l, h1, by omega, h2⟩
theorem spans_cells {x : TV} {k : Nat} (h : cellsOk Try.prog (k + 3) 22 [x]) : ∃ l : List Span, IsRow Span.cs x l ∧ l.length ≤ 9000000000000 ∧ ∀ s ∈ l, (-9223372036854775808 ≤ s.lo ∧ s.lo ≤ 9223372036854775807) ∧ -9223372036854775808 ≤ s.hi ∧ s.hi ≤ 9223372036854775807 := by
  obtain ⟨l, h1, h2, h3, _⟩ := cellsOk_row (e := 24) (c := Span.cs) (p := fun s : Span => (-9223372036854775808 ≤ s.lo ∧ s.lo ≤ 9223372036854775807) ∧ -9223372036854775808 ≤ s.hi ∧ s.hi ≤ 9223372036854775807) (by kernel_rfl) (fun cs hc => span_cells hc) h
  rw [show Program.bytesOf Try.prog 24 = 16 by kernel_rfl] at h3
  unfold reachBytes at h3
  exact ⟨l, h1, by omega, h2⟩
theorem sun_cells {k : Nat} {cs : List TV} (h : cellsOk Try.prog (k + 2) 67 cs) : ∃ s : Sun, cs = s.cs ∧ True := by
  have h := cellsOk_tys (ts := [3, 3]) (by kernel_rfl) h
  obtain ⟨_, r, rfl, h1, h⟩ := seqOk_cons h
  obtain ⟨_, r, rfl, h2, h⟩ := seqOk_cons h
  cases seqOk_nil h
  obtain ⟨a, rfl, ha⟩ := int_cells h1
  obtain ⟨b, rfl, hb⟩ := int_cells h2
  exact ⟨⟨a, b⟩, rfl, trivial⟩
theorem read_cells {k : Nat} {cs : List TV} (h : cellsOk Try.prog (k + 2) 28 cs) : ∃ a b : Int, cs = [.int .i64 a, .int .i64 b] ∧ (-9223372036854775808 ≤ a ∧ a ≤ 9223372036854775807) ∧ -9223372036854775808 ≤ b ∧ b ≤ 9223372036854775807 := by
  have h := cellsOk_tys (ts := [3, 3]) (by kernel_rfl) h
  obtain ⟨_, r, rfl, h1, h⟩ := seqOk_cons h
  obtain ⟨_, r, rfl, h2, h⟩ := seqOk_cons h
  cases seqOk_nil h
  obtain ⟨a, rfl, ha⟩ := int_cells h1
  obtain ⟨b, rfl, hb⟩ := int_cells h2
  exact ⟨a, b, rfl, ha, hb⟩
theorem trial_cells {k : Nat} {cs : List TV} (h : cellsOk Try.prog (k + 3) 84 cs) : ∃ p : Tr, cs = p.cs ∧ True := by
  have h := cellsOk_tys (ts := [28, 3]) (by kernel_rfl) h
  obtain ⟨_, r, rfl, h1, h⟩ := seqOk_cons h
  obtain ⟨_, r, rfl, h2, h⟩ := seqOk_cons h
  cases seqOk_nil h
  obtain ⟨a, b, rfl, _⟩ := read_cells h1
  obtain ⟨c, rfl, _⟩ := int_cells h2
  exact ⟨⟨a, b, c⟩, rfl, trivial⟩
theorem part_cells {k : Nat} {cs : List TV} (h : cellsOk Try.prog (k + 4) 77 cs) : ∃ p : Pt, cs = p.cs ∧ decP p = true := by
  have h := cellsOk_tys (ts := [3, 3, 22]) (by kernel_rfl) h
  obtain ⟨_, r, rfl, h1, h⟩ := seqOk_cons h
  obtain ⟨_, r, rfl, h2, h⟩ := seqOk_cons h
  obtain ⟨_, r, rfl, h3, h⟩ := seqOk_cons h
  cases seqOk_nil h
  obtain ⟨a, rfl, _⟩ := int_cells h1
  obtain ⟨b, rfl, _⟩ := int_cells h2
  obtain ⟨c, rfl, h3⟩ := slice_cells (e := 24) (by kernel_rfl) h3
  obtain ⟨l, hl, ll, _⟩ := spans_cells h3
  refine ⟨⟨a, b, c⟩, rfl, ?_⟩
  unfold decP
  rw [show rowL unS (Pt.mk a b c).s = some l from rowS_is hl]
  exact decide_eq_true ll
theorem sxArg {x : TV} (h : argOk Try.prog 26 x) : ∃ (s : Sx) (sT sS : TV), x = s.t sT sS ∧ IsRow Span.cs sT s.tab ∧ IsRow Span.cs sS s.shade ∧ s.tab.length ≤ 9000000000000 ∧ s.shade.length ≤ 9000000000000 := by
  obtain ⟨cs, rfl, h'⟩ := argOk_agg (ts := [3, 22, 24, 3, 22]) (by kernel_rfl) h
  have h := cellsOk_tys (ts := [3, 22, 24, 3, 22]) (by kernel_rfl) h'
  obtain ⟨_, r, rfl, h1, h⟩ := seqOk_cons h
  obtain ⟨_, r, rfl, h2, h⟩ := seqOk_cons h
  obtain ⟨_, r, rfl, h3, h⟩ := seqOk_cons h
  obtain ⟨_, r, rfl, h4, h⟩ := seqOk_cons h
  obtain ⟨_, r, rfl, h5, h⟩ := seqOk_cons h
  cases seqOk_nil h
  obtain ⟨a, rfl, _⟩ := int_cells h1
  obtain ⟨b, rfl, h2⟩ := slice_cells (e := 24) (by kernel_rfl) h2
  obtain ⟨c, rfl, _⟩ := span_cells h3
  obtain ⟨d, rfl, _⟩ := int_cells h4
  obtain ⟨e, rfl, h5⟩ := slice_cells (e := 24) (by kernel_rfl) h5
  obtain ⟨T, hT, lT, _⟩ := spans_cells h2
  obtain ⟨S, hS, lS, _⟩ := spans_cells h5
  exact ⟨⟨a, T, c, d, S⟩, b, e, rfl, hT, hS, lT, lS⟩
theorem rdArg {x : TV} (h : argOk Try.prog 28 x) : ∃ a b : Int, x = .agg [.int .i64 a, .int .i64 b] := by
  obtain ⟨cs, rfl, h'⟩ := argOk_agg (ts := [3, 3]) (by kernel_rfl) h
  obtain ⟨a, b, rfl, _⟩ := read_cells h'
  exact ⟨a, b, rfl⟩
theorem spArg {x : TV} (h : argOk Try.prog 24 x) : ∃ s : Span, x = s.t ∧ (-9223372036854775808 ≤ s.lo ∧ s.lo ≤ 9223372036854775807) ∧ -9223372036854775808 ≤ s.hi ∧ s.hi ≤ 9223372036854775807 := by
  obtain ⟨cs, rfl, h'⟩ := argOk_agg (ts := [3, 3]) (by kernel_rfl) h
  obtain ⟨s, rfl, h1, h2⟩ := span_cells h'
  exact ⟨s, rfl, h1, h2⟩
theorem intArg {x : TV} (h : argOk Try.prog 3 x) : ∃ n, x = .int .i64 n ∧ -9223372036854775808 ≤ n ∧ n ≤ 9223372036854775807 := argOk_i64 (by kernel_rfl) h
theorem intsArg {x : TV} (h : argOk Try.prog 45 x) : ∃ l : List Int, IsRow ic x l ∧ l.length ≤ 17592186044415 ∧ ∀ n ∈ l, -9223372036854775808 ≤ n ∧ n ≤ 9223372036854775807 := ints_cells (argOk_sl (e := 3) (by kernel_rfl) h)
theorem sunsArg {x : TV} (h : argOk Try.prog 37 x) : ∃ l : List Sun, IsRow Sun.cs x l ∧ l.length ≤ 9000000000000 := by
  obtain ⟨l, h1, _, h3, _⟩ := cellsOk_row (e := 67) (c := Sun.cs) (p := fun _ => True) (by kernel_rfl) (fun cs hc => sun_cells hc) (argOk_sl (e := 67) (by kernel_rfl) h)
  rw [show Program.bytesOf Try.prog 67 = 16 by kernel_rfl] at h3
  unfold reachBytes at h3
  exact ⟨l, h1, by omega⟩
theorem trialsArg {x : TV} (h : argOk Try.prog 41 x) : ∃ l : List Tr, IsRow Tr.cs x l ∧ l.length ≤ 9000000000000 := by
  obtain ⟨l, h1, _, h3, _⟩ := cellsOk_row (e := 84) (c := Tr.cs) (p := fun _ => True) (by kernel_rfl) (fun cs hc => trial_cells hc) (argOk_sl (e := 84) (by kernel_rfl) h)
  rw [show Program.bytesOf Try.prog 84 = 24 by kernel_rfl] at h3
  unfold reachBytes at h3
  exact ⟨l, h1, by omega⟩
theorem partsArg {x : TV} (h : argOk Try.prog 50 x) : ∃ l : List Pt, IsRow Pt.cs x l ∧ l.length ≤ 9000000000000 ∧ l.all decP = true := by
  obtain ⟨l, h1, h2, h3, _⟩ := cellsOk_row (e := 77) (c := Pt.cs) (p := fun p => decP p = true) (by kernel_rfl) (fun cs hc => part_cells hc) (argOk_sl (e := 77) (by kernel_rfl) h)
  rw [show Program.bytesOf Try.prog 77 = 40 by kernel_rfl] at h3
  unfold reachBytes at h3
  exact ⟨l, h1, by omega, List.all_eq_true.2 h2⟩
end Go.Proofs.Ytjmkccckohcfkaa
