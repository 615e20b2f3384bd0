/- What the claim leans on, text 6. -/
import Derived.Test.YtcjcnmpecmbdeaaC5
set_option linter.unusedSimpArgs false
set_option linter.unusedVariables false

/- Part Gr. -/
namespace Go.Oc
open Go Go.Pm
def mOk (n m : Int) (o : Ob) (k : Nat) : Bool := (inB o.f 0 (n - 1) && inB o.s 0 (n - 1) && (o.f != o.s)) && ([o.a, o.b, o.c].take k).all fun t => inB t 0 (m - 1)
theorem mOk_succ (n m : Int) (o : Ob) {k : Nat} {t : Int} (h : [o.a, o.b, o.c][k]? = some t) : mOk n m o (k + 1) = (mOk n m o k && inB t 0 (m - 1)) := by
  unfold mOk; rw [take_all _ h, ← Bool.and_assoc]
theorem mOk_all (n m : Int) (o : Ob) : mOk n m o 3 = obOk n m o := by simp [mOk, obOk, Bool.and_assoc]
theorem mOk_no {n m : Int} {o : Ob} {k : Nat} (h : mOk n m o k = false) : obOk n m o = false := by
  rw [← mOk_all]
  unfold mOk at h ⊢
  rw [Bool.and_eq_false_iff] at h ⊢
  rcases h with h | h
  · exact .inl h
  · exact .inr (all_of_take (k := k) (by
      rw [show List.take 3 [o.a, o.b, o.c] = [o.a, o.b, o.c] from rfl]; exact h))
def pwW (n1 n2 f m b : Int) : Int := IntKind.i64.wrap (IntKind.i64.wrap (n1 * IntKind.i64.wrap (f - m)) + IntKind.i64.wrap (n2 * IntKind.i64.wrap (m - b)))
/-- A truth in which each number is at an end. -/
def hiOf (o : Ob) (bits : Nat) (t : Nat) : Bool := ((t : Int) == o.f && bits.testBit 0) || ((t : Int) == o.s && bits.testBit 1)
def cIx (B : List Blank) (o : Ob) (bits k : Nat) : List Int := (List.range k).map fun (t : Nat) => endS (blankAt B t).i (hiOf o bits t)
def cCo (B : List Blank) (o : Ob) (bits k : Nat) : List Int := (List.range k).map fun (t : Nat) => endS (blankAt B t).c (hiOf o bits t)
def cCu (T : List Span) (bits k : Nat) : List Int := (List.range k).map fun (t : Nat) => endS (toolAt T t) (bits.testBit (2 + t))
theorem cIx_succ (B : List Blank) (o : Ob) (bits k : Nat) : cIx B o bits (k + 1) = cIx B o bits k ++ [endS (blankAt B k).i (hiOf o bits k)] := by unfold cIx; rw [List.range_succ, List.map_append]; rfl
theorem cCo_succ (B : List Blank) (o : Ob) (bits k : Nat) : cCo B o bits (k + 1) = cCo B o bits k ++ [endS (blankAt B k).c (hiOf o bits k)] := by unfold cCo; rw [List.range_succ, List.map_append]; rfl
theorem cCu_succ (T : List Span) (bits k : Nat) : cCu T bits (k + 1) = cCu T bits k ++ [endS (toolAt T k) (bits.testBit (2 + k))] := by unfold cCu; rw [List.range_succ, List.map_append]; rfl
theorem cIx_len (B : List Blank) (o : Ob) (bits k : Nat) : (cIx B o bits k).length = k := by simp [cIx]
theorem cCo_len (B : List Blank) (o : Ob) (bits k : Nat) : (cCo B o bits k).length = k := by simp [cCo]
theorem cCu_len (T : List Span) (bits k : Nat) : (cCu T bits k).length = k := by simp [cCu]
end Go.Oc
namespace Go.Proofs.Ytcjcnmpecmbdeaa
open Go.RowKit Go.Pm Go.Oc
set_option maxRecDepth 100000
set_option linter.unusedVariables false
set_option maxHeartbeats 4000000

theorem r4Wish_c (w : Want) : PCalls Try.prog 70 [w.t] (.bool (wantOk w)) := by
  refine pcalls_by Try.mixes spB3_ok (fn := Try.f70) Try.func70 rfl (by kernel_rfl) (by show 1 ≤ _; decide) ?_
  simp (decide := true) (maxSteps := 4000000) only [go_sem, Nat.reduceAdd, Nat.reduceSub, Nat.reduceMul, Nat.reduceDiv, Nat.reduceMod, Nat.reduceLT, Nat.reduceLeDiff, Nat.reduceEqDiff, Nat.reduceBEq, Nat.reduceBNe, Nat.reduceGT, Int.reduceAdd, Int.reduceSub, Int.reduceMul, Int.reduceNeg, Int.reduceLT, Int.reduceLE, Int.reduceEq, Int.reduceNe, Int.reduceBEq, Int.reduceBNe, Int.reduceToNat, Int.reduceGT, Int.reduceGE, ↓reduceIte, decide_true, decide_false, eq_self, Nat.mul_one, Nat.zero_mul, Nat.one_mul, Int.le_refl, Nat.le_refl, Int.cast_ofNat_Int, Try.f70, Want.t, wantOk]
theorem r4End_c (s : Span) (b : Bool) : PCalls Try.prog 110 [s.t, .bool b] (.int .i64 (endS s b)) := by
  refine pcalls_by Try.mixes noSpec_ok (fn := Try.f110) Try.func110 rfl (by kernel_rfl) (by show 2 ≤ _; decide) ?_
  cases b <;> simp (decide := true) (maxSteps := 4000000) only [go_sem, Nat.reduceAdd, Nat.reduceSub, Nat.reduceMul, Nat.reduceDiv, Nat.reduceMod, Nat.reduceLT, Nat.reduceLeDiff, Nat.reduceEqDiff, Nat.reduceBEq, Nat.reduceBNe, Nat.reduceGT, Int.reduceAdd, Int.reduceSub, Int.reduceMul, Int.reduceNeg, Int.reduceLT, Int.reduceLE, Int.reduceEq, Int.reduceNe, Int.reduceBEq, Int.reduceBNe, Int.reduceToNat, Int.reduceGT, Int.reduceGE, ↓reduceIte, decide_true, decide_false, eq_self, Nat.mul_one, Nat.zero_mul, Nat.one_mul, Int.le_refl, Nat.le_refl, Int.cast_ofNat_Int, Try.f110, Span.t, Span.cs, endS]
theorem r4Worst_c (c : Span) : PCalls Try.prog 94 [c.t] (.int .i64 (max (max c.lo (IntKind.i64.wrap (0 - c.lo))) (max c.hi (IntKind.i64.wrap (0 - c.hi))))) := by
  refine pcalls_by Try.mixes spB3_ok (fn := Try.f94) Try.func94 rfl (by kernel_rfl) (by show 1 ≤ _; decide) ?_
  simp (decide := true) (maxSteps := 4000000) only [go_sem, Nat.reduceAdd, Nat.reduceSub, Nat.reduceMul, Nat.reduceDiv, Nat.reduceMod, Nat.reduceLT, Nat.reduceLeDiff, Nat.reduceEqDiff, Nat.reduceBEq, Nat.reduceBNe, Nat.reduceGT, Int.reduceAdd, Int.reduceSub, Int.reduceMul, Int.reduceNeg, Int.reduceLT, Int.reduceLE, Int.reduceEq, Int.reduceNe, Int.reduceBEq, Int.reduceBNe, Int.reduceToNat, Int.reduceGT, Int.reduceGE, ↓reduceIte, decide_true, decide_false, eq_self, Nat.mul_one, Nat.zero_mul, Nat.one_mul, Int.le_refl, Nat.le_refl, Int.cast_ofNat_Int, Try.f94, Span.t, Span.cs]
noncomputable def rWish : List TV → Option TV
  | [.agg [.int .i64 a, .int .i64 b, .int .i64 c]] => some (.bool (wantOk ⟨⟨a, b⟩, c⟩))
  | _ => none
theorem rWish_ok : ∀ xs r, rWish xs = some r → PCalls Try.prog 70 xs r := by
  intro xs r h
  unfold rWish at h
  split at h
  · cases h; exact r4Wish_c ⟨⟨_, _⟩, _⟩
  · cases h
attribute [go_sem] rWish
noncomputable def rEnd : List TV → Option TV
  | [.agg [.int .i64 x, .int .i64 y], .bool b] => some (.int .i64 (endS ⟨x, y⟩ b))
  | _ => none
theorem rEnd_ok : ∀ xs r, rEnd xs = some r → PCalls Try.prog 110 xs r := by
  intro xs r h
  unfold rEnd at h
  split at h
  · cases h; exact r4End_c ⟨_, _⟩ _
  · cases h
attribute [go_sem] rEnd
noncomputable def rWorst : List TV → Option TV
  | [.agg [.int .i64 a, .int .i64 b]] => some (.int .i64 (max (max a (IntKind.i64.wrap (0 - a))) (max b (IntKind.i64.wrap (0 - b)))))
  | _ => none
theorem rWorst_ok : ∀ xs r, rWorst xs = some r → PCalls Try.prog 94 xs r := by
  intro xs r h
  unfold rWorst at h
  split at h
  · cases h; exact r4Worst_c ⟨_, _⟩
  · cases h
attribute [go_sem] rWorst
noncomputable def spR1 : Pm.Spec := (((spB3.one 19 glCheck).one 70 rWish).one 110 rEnd).one 94 rWorst
@[go_sem] theorem spR1_p (f : FuncId) (xs : List TV) : spR1.p f xs = Pm.Spec.p ((((spB3.one 19 glCheck).one 70 rWish).one 110 rEnd).one 94 rWorst) f xs := rfl
@[go_sem] theorem spR1_h (f : FuncId) (ps : List PV) (hl : List PO) : spR1.h f ps hl = Pm.Spec.h ((((spB3.one 19 glCheck).one 70 rWish).one 110 rEnd).one 94 rWorst) f ps hl := rfl
@[go_sem] theorem spR1_fz (f : FuncId) : spR1.fz f = Pm.Spec.fz ((((spB3.one 19 glCheck).one 70 rWish).one 110 rEnd).one 94 rWorst) f := rfl
@[go_sem] theorem spR1_fr (f : FuncId) : spR1.fr f = Pm.Spec.fr ((((spB3.one 19 glCheck).one 70 rWish).one 110 rEnd).one 94 rWorst) f := rfl
@[go_sem] theorem spR1_mu (t : TypeId) : spR1.mu t = Pm.Spec.mu ((((spB3.one 19 glCheck).one 70 rWish).one 110 rEnd).one 94 rWorst) t := rfl
theorem spR1_ok : SpecOk Try.prog spR1 := Spec.one_ok rWorst_ok (Spec.one_ok rEnd_ok (Spec.one_ok rWish_ok (Spec.one_ok r4Check_ok spB3_ok)))

theorem r4Made_c {B : List Blank} {T : List Span} {sB sT : TV} (hB : IsRow Blank.cs sB B) (hT : IsRow Span.cs sT T) (hlB : B.length ≤ 5864062014806) (hlT : T.length ≤ 9000000000000) (o : Ob) : PCalls Try.prog 88 [.agg [sB, sT], o.t] (.bool (obOk B.length T.length o)) := by
  have w0 : IntKind.i64.wrap (-1) = -1 := rfl
  have w1 : IntKind.i64.wrap ((B.length : Int) - 1) = (B.length : Int) - 1 := wrap_in (by omega) (by omega)
  have w2 : IntKind.i64.wrap ((T.length : Int) - 1) = (T.length : Int) - 1 := wrap_in (by omega) (by omega)
  refine pcalls_by Try.mixes spR1_ok (fn := Try.f88) Try.func88 rfl (by kernel_rfl) (by show 2 ≤ _; decide) ?_
  by_cases hlb : 1 ≤ B.length
  · obtain ⟨fB, rfl⟩ := hB.ne hlb
    cases h1 : inB o.f 0 ((B.length : Int) - 1) <;> cases h2 : inB o.s 0 ((B.length : Int) - 1) <;> cases h3 : (o.f != o.s)
    case true.true.true =>
      have hz : mOk B.length T.length o 0 = true := by simp [mOk, h1, h2, h3]
      simp (decide := true) (maxSteps := 4000000) only [go_sem, Nat.reduceAdd, Nat.reduceSub, Nat.reduceMul, Nat.reduceDiv, Nat.reduceMod, Nat.reduceLT, Nat.reduceLeDiff, Nat.reduceEqDiff, Nat.reduceBEq, Nat.reduceBNe, Nat.reduceGT, Int.reduceAdd, Int.reduceSub, Int.reduceMul, Int.reduceNeg, Int.reduceLT, Int.reduceLE, Int.reduceEq, Int.reduceNe, Int.reduceBEq, Int.reduceBNe, Int.reduceToNat, Int.reduceGT, Int.reduceGE, ↓reduceIte, decide_true, decide_false, eq_self, Nat.mul_one, Nat.zero_mul, Nat.one_mul, Int.le_refl, Nat.le_refl, Int.cast_ofNat_Int, Try.f88, Ob.t, Ob.cs, w1, h1, h2, h3]
      refine pwpC_loopU (A := { k : Nat // k ≤ 3 }) [2, 3] (fun k => [(6, .t (.int .i64 k.1)), (5, .t (.bool (mOk B.length T.length o k.1)))]) (fun _ => []) (fun k => 3 - k.1) ⟨0, by omega⟩ (by decide) (fun _ => by rfl) ?_ fun Q1 hQ1 ⟨k, hk⟩ I1 hI1 => ?_
      · simp (decide := true) (maxSteps := 4000000) only [go_sem, Nat.reduceAdd, Nat.reduceSub, Nat.reduceMul, Nat.reduceDiv, Nat.reduceMod, Nat.reduceLT, Nat.reduceLeDiff, Nat.reduceEqDiff, Nat.reduceBEq, Nat.reduceBNe, Nat.reduceGT, Int.reduceAdd, Int.reduceSub, Int.reduceMul, Int.reduceNeg, Int.reduceLT, Int.reduceLE, Int.reduceEq, Int.reduceNe, Int.reduceBEq, Int.reduceBNe, Int.reduceToNat, Int.reduceGT, Int.reduceGE, ↓reduceIte, decide_true, decide_false, eq_self, Nat.mul_one, Nat.zero_mul, Nat.one_mul, Int.le_refl, Nat.le_refl, Int.cast_ofNat_Int, hz]
      · rcases (Bool.eq_false_or_eq_true (mOk B.length T.length o k)).symm with hok | hok
        · have hno := mOk_no hok
          simp (decide := true) (maxSteps := 4000000) only [go_sem, Nat.reduceAdd, Nat.reduceSub, Nat.reduceMul, Nat.reduceDiv, Nat.reduceMod, Nat.reduceLT, Nat.reduceLeDiff, Nat.reduceEqDiff, Nat.reduceBEq, Nat.reduceBNe, Nat.reduceGT, Int.reduceAdd, Int.reduceSub, Int.reduceMul, Int.reduceNeg, Int.reduceLT, Int.reduceLE, Int.reduceEq, Int.reduceNe, Int.reduceBEq, Int.reduceBNe, Int.reduceToNat, Int.reduceGT, Int.reduceGE, ↓reduceIte, decide_true, decide_false, eq_self, Nat.mul_one, Nat.zero_mul, Nat.one_mul, Int.le_refl, Nat.le_refl, Int.cast_ofNat_Int, hok]
          refine hQ1 _ _ ?_
          simp (decide := true) (maxSteps := 4000000) only [go_sem, Nat.reduceAdd, Nat.reduceSub, Nat.reduceMul, Nat.reduceDiv, Nat.reduceMod, Nat.reduceLT, Nat.reduceLeDiff, Nat.reduceEqDiff, Nat.reduceBEq, Nat.reduceBNe, Nat.reduceGT, Int.reduceAdd, Int.reduceSub, Int.reduceMul, Int.reduceNeg, Int.reduceLT, Int.reduceLE, Int.reduceEq, Int.reduceNe, Int.reduceBEq, Int.reduceBNe, Int.reduceToNat, Int.reduceGT, Int.reduceGE, ↓reduceIte, decide_true, decide_false, eq_self, Nat.mul_one, Nat.zero_mul, Nat.one_mul, Int.le_refl, Nat.le_refl, Int.cast_ofNat_Int, hno]
        · rcases (show k = 0 ∨ k = 1 ∨ k = 2 ∨ k = 3 by omega) with rfl | rfl | rfl | rfl
          · have hsu := mOk_succ (B.length : Int) T.length o (k := 0) rfl
            rw [hok, Bool.true_and] at hsu
            rcases hT with ⟨rfl, rfl⟩ | ⟨fT, rfl⟩
            · have h4 : inB o.a 0 (-1) = false := by unfold inB; simp; omega
              simp only [List.length_nil, Int.cast_ofNat_Int, Int.reduceSub, h4] at hsu hok
              simp (decide := true) (maxSteps := 4000000) only [go_sem, Nat.reduceAdd, Nat.reduceSub, Nat.reduceMul, Nat.reduceDiv, Nat.reduceMod, Nat.reduceLT, Nat.reduceLeDiff, Nat.reduceEqDiff, Nat.reduceBEq, Nat.reduceBNe, Nat.reduceGT, Int.reduceAdd, Int.reduceSub, Int.reduceMul, Int.reduceNeg, Int.reduceLT, Int.reduceLE, Int.reduceEq, Int.reduceNe, Int.reduceBEq, Int.reduceBNe, Int.reduceToNat, Int.reduceGT, Int.reduceGE, ↓reduceIte, decide_true, decide_false, eq_self, Nat.mul_one, Nat.zero_mul, Nat.one_mul, Int.le_refl, Nat.le_refl, Int.cast_ofNat_Int, hok, w0, h4, List.length_nil]
              refine hI1 _ ⟨1, by omega⟩ (by simp) ?_
              simp (decide := true) (maxSteps := 4000000) only [go_sem, Nat.reduceAdd, Nat.reduceSub, Nat.reduceMul, Nat.reduceDiv, Nat.reduceMod, Nat.reduceLT, Nat.reduceLeDiff, Nat.reduceEqDiff, Nat.reduceBEq, Nat.reduceBNe, Nat.reduceGT, Int.reduceAdd, Int.reduceSub, Int.reduceMul, Int.reduceNeg, Int.reduceLT, Int.reduceLE, Int.reduceEq, Int.reduceNe, Int.reduceBEq, Int.reduceBNe, Int.reduceToNat, Int.reduceGT, Int.reduceGE, ↓reduceIte, decide_true, decide_false, eq_self, Nat.mul_one, Nat.zero_mul, Nat.one_mul, Int.le_refl, Nat.le_refl, Int.cast_ofNat_Int, hsu, List.length_nil]
            · simp (decide := true) (maxSteps := 4000000) only [go_sem, Nat.reduceAdd, Nat.reduceSub, Nat.reduceMul, Nat.reduceDiv, Nat.reduceMod, Nat.reduceLT, Nat.reduceLeDiff, Nat.reduceEqDiff, Nat.reduceBEq, Nat.reduceBNe, Nat.reduceGT, Int.reduceAdd, Int.reduceSub, Int.reduceMul, Int.reduceNeg, Int.reduceLT, Int.reduceLE, Int.reduceEq, Int.reduceNe, Int.reduceBEq, Int.reduceBNe, Int.reduceToNat, Int.reduceGT, Int.reduceGE, ↓reduceIte, decide_true, decide_false, eq_self, Nat.mul_one, Nat.zero_mul, Nat.one_mul, Int.le_refl, Nat.le_refl, Int.cast_ofNat_Int, hok, w2]
              refine hI1 _ ⟨1, by omega⟩ (by simp) ?_
              simp (decide := true) (maxSteps := 4000000) only [go_sem, Nat.reduceAdd, Nat.reduceSub, Nat.reduceMul, Nat.reduceDiv, Nat.reduceMod, Nat.reduceLT, Nat.reduceLeDiff, Nat.reduceEqDiff, Nat.reduceBEq, Nat.reduceBNe, Nat.reduceGT, Int.reduceAdd, Int.reduceSub, Int.reduceMul, Int.reduceNeg, Int.reduceLT, Int.reduceLE, Int.reduceEq, Int.reduceNe, Int.reduceBEq, Int.reduceBNe, Int.reduceToNat, Int.reduceGT, Int.reduceGE, ↓reduceIte, decide_true, decide_false, eq_self, Nat.mul_one, Nat.zero_mul, Nat.one_mul, Int.le_refl, Nat.le_refl, Int.cast_ofNat_Int, hsu]
          · have hsu := mOk_succ (B.length : Int) T.length o (k := 1) rfl
            rw [hok, Bool.true_and] at hsu
            rcases hT with ⟨rfl, rfl⟩ | ⟨fT, rfl⟩
            · have h4 : inB o.b 0 (-1) = false := by unfold inB; simp; omega
              simp only [List.length_nil, Int.cast_ofNat_Int, Int.reduceSub, h4] at hsu hok
              simp (decide := true) (maxSteps := 4000000) only [go_sem, Nat.reduceAdd, Nat.reduceSub, Nat.reduceMul, Nat.reduceDiv, Nat.reduceMod, Nat.reduceLT, Nat.reduceLeDiff, Nat.reduceEqDiff, Nat.reduceBEq, Nat.reduceBNe, Nat.reduceGT, Int.reduceAdd, Int.reduceSub, Int.reduceMul, Int.reduceNeg, Int.reduceLT, Int.reduceLE, Int.reduceEq, Int.reduceNe, Int.reduceBEq, Int.reduceBNe, Int.reduceToNat, Int.reduceGT, Int.reduceGE, ↓reduceIte, decide_true, decide_false, eq_self, Nat.mul_one, Nat.zero_mul, Nat.one_mul, Int.le_refl, Nat.le_refl, Int.cast_ofNat_Int, hok, w0, h4, List.length_nil]
              refine hI1 _ ⟨2, by omega⟩ (by simp) ?_
              simp (decide := true) (maxSteps := 4000000) only [go_sem, Nat.reduceAdd, Nat.reduceSub, Nat.reduceMul, Nat.reduceDiv, Nat.reduceMod, Nat.reduceLT, Nat.reduceLeDiff, Nat.reduceEqDiff, Nat.reduceBEq, Nat.reduceBNe, Nat.reduceGT, Int.reduceAdd, Int.reduceSub, Int.reduceMul, Int.reduceNeg, Int.reduceLT, Int.reduceLE, Int.reduceEq, Int.reduceNe, Int.reduceBEq, Int.reduceBNe, Int.reduceToNat, Int.reduceGT, Int.reduceGE, ↓reduceIte, decide_true, decide_false, eq_self, Nat.mul_one, Nat.zero_mul, Nat.one_mul, Int.le_refl, Nat.le_refl, Int.cast_ofNat_Int, hsu, List.length_nil]
            · simp (decide := true) (maxSteps := 4000000) only [go_sem, Nat.reduceAdd, Nat.reduceSub, Nat.reduceMul, Nat.reduceDiv, Nat.reduceMod, Nat.reduceLT, Nat.reduceLeDiff, Nat.reduceEqDiff, Nat.reduceBEq, Nat.reduceBNe, Nat.reduceGT, Int.reduceAdd, Int.reduceSub, Int.reduceMul, Int.reduceNeg, Int.reduceLT, Int.reduceLE, Int.reduceEq, Int.reduceNe, Int.reduceBEq, Int.reduceBNe, Int.reduceToNat, Int.reduceGT, Int.reduceGE, ↓reduceIte, decide_true, decide_false, eq_self, Nat.mul_one, Nat.zero_mul, Nat.one_mul, Int.le_refl, Nat.le_refl, Int.cast_ofNat_Int, hok, w2]
              refine hI1 _ ⟨2, by omega⟩ (by simp) ?_
              simp (decide := true) (maxSteps := 4000000) only [go_sem, Nat.reduceAdd, Nat.reduceSub, Nat.reduceMul, Nat.reduceDiv, Nat.reduceMod, Nat.reduceLT, Nat.reduceLeDiff, Nat.reduceEqDiff, Nat.reduceBEq, Nat.reduceBNe, Nat.reduceGT, Int.reduceAdd, Int.reduceSub, Int.reduceMul, Int.reduceNeg, Int.reduceLT, Int.reduceLE, Int.reduceEq, Int.reduceNe, Int.reduceBEq, Int.reduceBNe, Int.reduceToNat, Int.reduceGT, Int.reduceGE, ↓reduceIte, decide_true, decide_false, eq_self, Nat.mul_one, Nat.zero_mul, Nat.one_mul, Int.le_refl, Nat.le_refl, Int.cast_ofNat_Int, hsu]
          · have hsu := mOk_succ (B.length : Int) T.length o (k := 2) rfl
            rw [hok, Bool.true_and] at hsu
            rcases hT with ⟨rfl, rfl⟩ | ⟨fT, rfl⟩
            · have h4 : inB o.c 0 (-1) = false := by unfold inB; simp; omega
              simp only [List.length_nil, Int.cast_ofNat_Int, Int.reduceSub, h4] at hsu hok
              simp (decide := true) (maxSteps := 4000000) only [go_sem, Nat.reduceAdd, Nat.reduceSub, Nat.reduceMul, Nat.reduceDiv, Nat.reduceMod, Nat.reduceLT, Nat.reduceLeDiff, Nat.reduceEqDiff, Nat.reduceBEq, Nat.reduceBNe, Nat.reduceGT, Int.reduceAdd, Int.reduceSub, Int.reduceMul, Int.reduceNeg, Int.reduceLT, Int.reduceLE, Int.reduceEq, Int.reduceNe, Int.reduceBEq, Int.reduceBNe, Int.reduceToNat, Int.reduceGT, Int.reduceGE, ↓reduceIte, decide_true, decide_false, eq_self, Nat.mul_one, Nat.zero_mul, Nat.one_mul, Int.le_refl, Nat.le_refl, Int.cast_ofNat_Int, hok, w0, h4, List.length_nil]
              refine hI1 _ ⟨3, by omega⟩ (by simp) ?_
              simp (decide := true) (maxSteps := 4000000) only [go_sem, Nat.reduceAdd, Nat.reduceSub, Nat.reduceMul, Nat.reduceDiv, Nat.reduceMod, Nat.reduceLT, Nat.reduceLeDiff, Nat.reduceEqDiff, Nat.reduceBEq, Nat.reduceBNe, Nat.reduceGT, Int.reduceAdd, Int.reduceSub, Int.reduceMul, Int.reduceNeg, Int.reduceLT, Int.reduceLE, Int.reduceEq, Int.reduceNe, Int.reduceBEq, Int.reduceBNe, Int.reduceToNat, Int.reduceGT, Int.reduceGE, ↓reduceIte, decide_true, decide_false, eq_self, Nat.mul_one, Nat.zero_mul, Nat.one_mul, Int.le_refl, Nat.le_refl, Int.cast_ofNat_Int, hsu, List.length_nil]
            · simp (decide := true) (maxSteps := 4000000) only [go_sem, Nat.reduceAdd, Nat.reduceSub, Nat.reduceMul, Nat.reduceDiv, Nat.reduceMod, Nat.reduceLT, Nat.reduceLeDiff, Nat.reduceEqDiff, Nat.reduceBEq, Nat.reduceBNe, Nat.reduceGT, Int.reduceAdd, Int.reduceSub, Int.reduceMul, Int.reduceNeg, Int.reduceLT, Int.reduceLE, Int.reduceEq, Int.reduceNe, Int.reduceBEq, Int.reduceBNe, Int.reduceToNat, Int.reduceGT, Int.reduceGE, ↓reduceIte, decide_true, decide_false, eq_self, Nat.mul_one, Nat.zero_mul, Nat.one_mul, Int.le_refl, Nat.le_refl, Int.cast_ofNat_Int, hok, w2]
              refine hI1 _ ⟨3, by omega⟩ (by simp) ?_
              simp (decide := true) (maxSteps := 4000000) only [go_sem, Nat.reduceAdd, Nat.reduceSub, Nat.reduceMul, Nat.reduceDiv, Nat.reduceMod, Nat.reduceLT, Nat.reduceLeDiff, Nat.reduceEqDiff, Nat.reduceBEq, Nat.reduceBNe, Nat.reduceGT, Int.reduceAdd, Int.reduceSub, Int.reduceMul, Int.reduceNeg, Int.reduceLT, Int.reduceLE, Int.reduceEq, Int.reduceNe, Int.reduceBEq, Int.reduceBNe, Int.reduceToNat, Int.reduceGT, Int.reduceGE, ↓reduceIte, decide_true, decide_false, eq_self, Nat.mul_one, Nat.zero_mul, Nat.one_mul, Int.le_refl, Nat.le_refl, Int.cast_ofNat_Int, hsu]
          · have hal := mOk_all (B.length : Int) T.length o
            rw [hok] at hal
            simp (decide := true) (maxSteps := 4000000) only [go_sem, Nat.reduceAdd, Nat.reduceSub, Nat.reduceMul, Nat.reduceDiv, Nat.reduceMod, Nat.reduceLT, Nat.reduceLeDiff, Nat.reduceEqDiff, Nat.reduceBEq, Nat.reduceBNe, Nat.reduceGT, Int.reduceAdd, Int.reduceSub, Int.reduceMul, Int.reduceNeg, Int.reduceLT, Int.reduceLE, Int.reduceEq, Int.reduceNe, Int.reduceBEq, Int.reduceBNe, Int.reduceToNat, Int.reduceGT, Int.reduceGE, ↓reduceIte, decide_true, decide_false, eq_self, Nat.mul_one, Nat.zero_mul, Nat.one_mul, Int.le_refl, Nat.le_refl, Int.cast_ofNat_Int, hok]
            refine hQ1 _ _ ?_
            simp (decide := true) (maxSteps := 4000000) only [go_sem, Nat.reduceAdd, Nat.reduceSub, Nat.reduceMul, Nat.reduceDiv, Nat.reduceMod, Nat.reduceLT, Nat.reduceLeDiff, Nat.reduceEqDiff, Nat.reduceBEq, Nat.reduceBNe, Nat.reduceGT, Int.reduceAdd, Int.reduceSub, Int.reduceMul, Int.reduceNeg, Int.reduceLT, Int.reduceLE, Int.reduceEq, Int.reduceNe, Int.reduceBEq, Int.reduceBNe, Int.reduceToNat, Int.reduceGT, Int.reduceGE, ↓reduceIte, decide_true, decide_false, eq_self, Nat.mul_one, Nat.zero_mul, Nat.one_mul, Int.le_refl, Nat.le_refl, Int.cast_ofNat_Int, hok, ← hal]
    all_goals
      have hno : obOk B.length T.length o = false := mOk_no (k := 0) (by simp [mOk, h1, h2, h3])
      simp (decide := true) (maxSteps := 4000000) only [go_sem, Nat.reduceAdd, Nat.reduceSub, Nat.reduceMul, Nat.reduceDiv, Nat.reduceMod, Nat.reduceLT, Nat.reduceLeDiff, Nat.reduceEqDiff, Nat.reduceBEq, Nat.reduceBNe, Nat.reduceGT, Int.reduceAdd, Int.reduceSub, Int.reduceMul, Int.reduceNeg, Int.reduceLT, Int.reduceLE, Int.reduceEq, Int.reduceNe, Int.reduceBEq, Int.reduceBNe, Int.reduceToNat, Int.reduceGT, Int.reduceGE, ↓reduceIte, decide_true, decide_false, eq_self, Nat.mul_one, Nat.zero_mul, Nat.one_mul, Int.le_refl, Nat.le_refl, Int.cast_ofNat_Int, Try.f88, Ob.t, Ob.cs, w1, h1, h2, h3]
      refine pwpC_loopU (A := Unit) [2, 3] (fun _ => [(6, .t (.int .i64 0)), (5, .t (.bool false))]) (fun _ => []) (fun _ => 0) () (by decide) (fun _ => by rfl) ?_ fun Q1 hQ1 _ I1 hI1 => ?_
      · simp (decide := true) (maxSteps := 4000000) only [go_sem, Nat.reduceAdd, Nat.reduceSub, Nat.reduceMul, Nat.reduceDiv, Nat.reduceMod, Nat.reduceLT, Nat.reduceLeDiff, Nat.reduceEqDiff, Nat.reduceBEq, Nat.reduceBNe, Nat.reduceGT, Int.reduceAdd, Int.reduceSub, Int.reduceMul, Int.reduceNeg, Int.reduceLT, Int.reduceLE, Int.reduceEq, Int.reduceNe, Int.reduceBEq, Int.reduceBNe, Int.reduceToNat, Int.reduceGT, Int.reduceGE, ↓reduceIte, decide_true, decide_false, eq_self, Nat.mul_one, Nat.zero_mul, Nat.one_mul, Int.le_refl, Nat.le_refl, Int.cast_ofNat_Int]
      · simp (decide := true) (maxSteps := 4000000) only [go_sem, Nat.reduceAdd, Nat.reduceSub, Nat.reduceMul, Nat.reduceDiv, Nat.reduceMod, Nat.reduceLT, Nat.reduceLeDiff, Nat.reduceEqDiff, Nat.reduceBEq, Nat.reduceBNe, Nat.reduceGT, Int.reduceAdd, Int.reduceSub, Int.reduceMul, Int.reduceNeg, Int.reduceLT, Int.reduceLE, Int.reduceEq, Int.reduceNe, Int.reduceBEq, Int.reduceBNe, Int.reduceToNat, Int.reduceGT, Int.reduceGE, ↓reduceIte, decide_true, decide_false, eq_self, Nat.mul_one, Nat.zero_mul, Nat.one_mul, Int.le_refl, Nat.le_refl, Int.cast_ofNat_Int]
        refine hQ1 _ _ ?_
        simp (decide := true) (maxSteps := 4000000) only [go_sem, Nat.reduceAdd, Nat.reduceSub, Nat.reduceMul, Nat.reduceDiv, Nat.reduceMod, Nat.reduceLT, Nat.reduceLeDiff, Nat.reduceEqDiff, Nat.reduceBEq, Nat.reduceBNe, Nat.reduceGT, Int.reduceAdd, Int.reduceSub, Int.reduceMul, Int.reduceNeg, Int.reduceLT, Int.reduceLE, Int.reduceEq, Int.reduceNe, Int.reduceBEq, Int.reduceBNe, Int.reduceToNat, Int.reduceGT, Int.reduceGE, ↓reduceIte, decide_true, decide_false, eq_self, Nat.mul_one, Nat.zero_mul, Nat.one_mul, Int.le_refl, Nat.le_refl, Int.cast_ofNat_Int, hno]
  · have hBn : B = [] := List.length_eq_zero_iff.1 (by omega)
    subst hBn
    have h1 : inB o.f 0 (-1) = false := by unfold inB; simp; omega
    have hno : obOk 0 T.length o = false := by unfold obOk; simp [h1]
    rcases hB with ⟨rfl, _⟩ | ⟨fB, rfl⟩
    all_goals
      simp (decide := true) (maxSteps := 4000000) only [go_sem, Nat.reduceAdd, Nat.reduceSub, Nat.reduceMul, Nat.reduceDiv, Nat.reduceMod, Nat.reduceLT, Nat.reduceLeDiff, Nat.reduceEqDiff, Nat.reduceBEq, Nat.reduceBNe, Nat.reduceGT, Int.reduceAdd, Int.reduceSub, Int.reduceMul, Int.reduceNeg, Int.reduceLT, Int.reduceLE, Int.reduceEq, Int.reduceNe, Int.reduceBEq, Int.reduceBNe, Int.reduceToNat, Int.reduceGT, Int.reduceGE, ↓reduceIte, decide_true, decide_false, eq_self, Nat.mul_one, Nat.zero_mul, Nat.one_mul, Int.le_refl, Nat.le_refl, Int.cast_ofNat_Int, Try.f88, Ob.t, Ob.cs, w0, h1, List.length_nil]
      refine pwpC_loopU (A := Unit) [2, 3] (fun _ => [(6, .t (.int .i64 0)), (5, .t (.bool false))]) (fun _ => []) (fun _ => 0) () (by decide) (fun _ => by rfl) ?_ fun Q1 hQ1 _ I1 hI1 => ?_
      · simp (decide := true) (maxSteps := 4000000) only [go_sem, Nat.reduceAdd, Nat.reduceSub, Nat.reduceMul, Nat.reduceDiv, Nat.reduceMod, Nat.reduceLT, Nat.reduceLeDiff, Nat.reduceEqDiff, Nat.reduceBEq, Nat.reduceBNe, Nat.reduceGT, Int.reduceAdd, Int.reduceSub, Int.reduceMul, Int.reduceNeg, Int.reduceLT, Int.reduceLE, Int.reduceEq, Int.reduceNe, Int.reduceBEq, Int.reduceBNe, Int.reduceToNat, Int.reduceGT, Int.reduceGE, ↓reduceIte, decide_true, decide_false, eq_self, Nat.mul_one, Nat.zero_mul, Nat.one_mul, Int.le_refl, Nat.le_refl, Int.cast_ofNat_Int]
      · simp (decide := true) (maxSteps := 4000000) only [go_sem, Nat.reduceAdd, Nat.reduceSub, Nat.reduceMul, Nat.reduceDiv, Nat.reduceMod, Nat.reduceLT, Nat.reduceLeDiff, Nat.reduceEqDiff, Nat.reduceBEq, Nat.reduceBNe, Nat.reduceGT, Int.reduceAdd, Int.reduceSub, Int.reduceMul, Int.reduceNeg, Int.reduceLT, Int.reduceLE, Int.reduceEq, Int.reduceNe, Int.reduceBEq, Int.reduceBNe, Int.reduceToNat, Int.reduceGT, Int.reduceGE, ↓reduceIte, decide_true, decide_false, eq_self, Nat.mul_one, Nat.zero_mul, Nat.one_mul, Int.le_refl, Nat.le_refl, Int.cast_ofNat_Int]
        refine hQ1 _ _ ?_
        simp (decide := true) (maxSteps := 4000000) only [go_sem, Nat.reduceAdd, Nat.reduceSub, Nat.reduceMul, Nat.reduceDiv, Nat.reduceMod, Nat.reduceLT, Nat.reduceLeDiff, Nat.reduceEqDiff, Nat.reduceBEq, Nat.reduceBNe, Nat.reduceGT, Int.reduceAdd, Int.reduceSub, Int.reduceMul, Int.reduceNeg, Int.reduceLT, Int.reduceLE, Int.reduceEq, Int.reduceNe, Int.reduceBEq, Int.reduceBNe, Int.reduceToNat, Int.reduceGT, Int.reduceGE, ↓reduceIte, decide_true, decide_false, eq_self, Nat.mul_one, Nat.zero_mul, Nat.one_mul, Int.le_refl, Nat.le_refl, Int.cast_ofNat_Int, hno]
noncomputable def rMade : List TV → Option TV := glIsOb
theorem rMade_ok : ∀ xs r, glIsOb xs = some r → PCalls Try.prog 88 xs r := by
  intro xs r h
  unfold glIsOb at h
  split at h
  · split at h
    · rename_i B T hB hT
      split at h
      · rename_i hc; cases h
        exact r4Made_c (rowL_some (un := unBlanks) rfl (@unBlanks_some) hB) (rowL_some (un := unSpans) rfl (@unSpans_some) hT) hc.1 hc.2 ⟨_, _, _, _, _⟩
      · cases h
    · cases h
  · cases h
noncomputable def spR2 : Pm.Spec := spR1.one 88 glIsOb
@[go_sem] theorem spR2_p (f : FuncId) (xs : List TV) : spR2.p f xs = Pm.Spec.p (spR1.one 88 glIsOb) f xs := rfl
@[go_sem] theorem spR2_h (f : FuncId) (ps : List PV) (hl : List PO) : spR2.h f ps hl = Pm.Spec.h (spR1.one 88 glIsOb) f ps hl := rfl
@[go_sem] theorem spR2_fz (f : FuncId) : spR2.fz f = Pm.Spec.fz (spR1.one 88 glIsOb) f := rfl
@[go_sem] theorem spR2_fr (f : FuncId) : spR2.fr f = Pm.Spec.fr (spR1.one 88 glIsOb) f := rfl
@[go_sem] theorem spR2_mu (t : TypeId) : spR2.mu t = Pm.Spec.mu (spR1.one 88 glIsOb) t := rfl
theorem spR2_ok : SpecOk Try.prog spR2 := Spec.one_ok rMade_ok spR1_ok
theorem r4Asked_c {B : List Blank} {T : List Span} {sB sT : TV} (hB : IsRow Blank.cs sB B) (hT : IsRow Span.cs sT T) (hlB : B.length ≤ 5864062014806) (hlT : T.length ≤ 9000000000000) (w : Want) (o : Ob) : PCalls Try.prog 58 [.agg [sB, sT], w.t, o.t] (.int .i64 (askedG B T w o)) := by
  have u1 : unBlanks [] = some [] := rfl
  have u2 : unSpans [] = some [] := rfl
  refine pcalls_by Try.mixes spR2_ok (fn := Try.f58) Try.func58 rfl (by kernel_rfl) (by show 3 ≤ _; decide) ?_
  unfold askedG
  cases hs : stockOk B T with
  | false => rcases hB with ⟨rfl, rfl⟩ | ⟨fB, rfl⟩ <;> rcases hT with ⟨rfl, rfl⟩ | ⟨fT, rfl⟩ <;> simp (decide := true) (maxSteps := 4000000) only [go_sem, Nat.reduceAdd, Nat.reduceSub, Nat.reduceMul, Nat.reduceDiv, Nat.reduceMod, Nat.reduceLT, Nat.reduceLeDiff, Nat.reduceEqDiff, Nat.reduceBEq, Nat.reduceBNe, Nat.reduceGT, Int.reduceAdd, Int.reduceSub, Int.reduceMul, Int.reduceNeg, Int.reduceLT, Int.reduceLE, Int.reduceEq, Int.reduceNe, Int.reduceBEq, Int.reduceBNe, Int.reduceToNat, Int.reduceGT, Int.reduceGE, ↓reduceIte, decide_true, decide_false, eq_self, Nat.mul_one, Nat.zero_mul, Nat.one_mul, Int.le_refl, Nat.le_refl, Int.cast_ofNat_Int, Try.f58, Ob.t, Ob.cs, Want.t, u1, u2, hlB, hlT, hs, List.length_nil]
  | true =>
    have hs' := stockOk_iff.1 hs
    obtain ⟨fB, rfl⟩ := hB.ne (by omega)
    obtain ⟨fT, rfl⟩ := hT.ne (by omega)
    cases hw : wantOk w <;> cases ho : obOk B.length T.length o <;> simp (decide := true) (maxSteps := 4000000) only [go_sem, Nat.reduceAdd, Nat.reduceSub, Nat.reduceMul, Nat.reduceDiv, Nat.reduceMod, Nat.reduceLT, Nat.reduceLeDiff, Nat.reduceEqDiff, Nat.reduceBEq, Nat.reduceBNe, Nat.reduceGT, Int.reduceAdd, Int.reduceSub, Int.reduceMul, Int.reduceNeg, Int.reduceLT, Int.reduceLE, Int.reduceEq, Int.reduceNe, Int.reduceBEq, Int.reduceBNe, Int.reduceToNat, Int.reduceGT, Int.reduceGE, ↓reduceIte, decide_true, decide_false, eq_self, Nat.mul_one, Nat.zero_mul, Nat.one_mul, Int.le_refl, Nat.le_refl, Int.cast_ofNat_Int, Try.f58, Ob.t, Ob.cs, Want.t, hlB, hlT, hs, hw, ho]
noncomputable def rAsked : List TV → Option TV
  | [.agg [sB, sT], .agg [.int .i64 x, .int .i64 y, .int .i64 z], .agg [.int .i64 f, .int .i64 s, .int .i64 a, .int .i64 b, .int .i64 c]] => match rowL unBlanks sB, rowL unSpans sT with
    | some B, some T => if B.length ≤ 5864062014806 ∧ T.length ≤ 9000000000000 then some (.int .i64 (askedG B T ⟨⟨x, y⟩, z⟩ ⟨f, s, a, b, c⟩)) else none
    | _, _ => none
  | _ => none
theorem rAsked_ok : ∀ xs r, rAsked xs = some r → PCalls Try.prog 58 xs r := by
  intro xs r h
  unfold rAsked at h
  split at h
  · split at h
    · rename_i B T hB hT
      split at h
      · rename_i hc; cases h
        exact r4Asked_c (rowL_some (un := unBlanks) rfl (@unBlanks_some) hB) (rowL_some (un := unSpans) rfl (@unSpans_some) hT) hc.1 hc.2 ⟨⟨_, _⟩, _⟩ ⟨_, _, _, _, _⟩
      · cases h
    · cases h
  · cases h
attribute [go_sem] rAsked
theorem r4Bends_c {l : List Int} (full : Bool) (o : Ob) (ha : 0 ≤ o.a ∧ o.a < l.length) (hb : 0 ≤ o.b ∧ o.b < l.length) (hc : 0 ≤ o.c ∧ o.c < l.length) : PCalls Try.prog 89 [o.t, .sl (ints l) l.length full] (.tup [.int .i64 (IntKind.i64.wrap (nth l o.a - nth l o.b)), .int .i64 (IntKind.i64.wrap (nth l o.b - nth l o.c))]) := by
  obtain ⟨of, os, oa, ob, oc⟩ := o
  simp only at ha hb hc
  obtain ⟨a, rfl⟩ := Int.eq_ofNat_of_zero_le ha.1
  obtain ⟨b, rfl⟩ := Int.eq_ofNat_of_zero_le hb.1
  obtain ⟨c, rfl⟩ := Int.eq_ofNat_of_zero_le hc.1
  obtain ⟨x, hx⟩ := get_lt ha.2
  obtain ⟨y, hy⟩ := get_lt hb.2
  obtain ⟨z, hz⟩ := get_lt hc.2
  have d1 := ints_at hx
  have d2 := ints_at hy
  have d3 := ints_at hz
  rw [Nat.mul_one] at d1 d2 d3
  refine pcalls_by Try.mixes noSpec_ok (fn := Try.f89) Try.func89 rfl (by kernel_rfl) (by show 2 ≤ _; decide) ?_
  simp (decide := true) (maxSteps := 4000000) only [go_sem, Nat.reduceAdd, Nat.reduceSub, Nat.reduceMul, Nat.reduceDiv, Nat.reduceMod, Nat.reduceLT, Nat.reduceLeDiff, Nat.reduceEqDiff, Nat.reduceBEq, Nat.reduceBNe, Nat.reduceGT, Int.reduceAdd, Int.reduceSub, Int.reduceMul, Int.reduceNeg, Int.reduceLT, Int.reduceLE, Int.reduceEq, Int.reduceNe, Int.reduceBEq, Int.reduceBNe, Int.reduceToNat, Int.reduceGT, Int.reduceGE, ↓reduceIte, decide_true, decide_false, eq_self, Nat.mul_one, Nat.zero_mul, Nat.one_mul, Int.le_refl, Nat.le_refl, Int.cast_ofNat_Int, Try.f89, Ob.t, Ob.cs, ha.2, hb.2, hc.2, d1, d2, d3, Int.toNat_natCast, nth_eq hx, nth_eq hy, nth_eq hz]
noncomputable def rBends : List TV → Option TV
  | [.agg [.int .i64 f, .int .i64 s, .int .i64 a, .int .i64 b, .int .i64 c], .sl cs n full] => match unI cs with
    | some l => if n = l.length ∧ (0 ≤ a ∧ a < l.length) ∧ (0 ≤ b ∧ b < l.length) ∧ 0 ≤ c ∧ c < l.length then some (.tup [.int .i64 (IntKind.i64.wrap (nth l a - nth l b)), .int .i64 (IntKind.i64.wrap (nth l b - nth l c))]) else none
    | none => none
  | _ => none
theorem rBends_ok : ∀ xs r, rBends xs = some r → PCalls Try.prog 89 xs r := by
  intro xs r h
  unfold rBends at h
  split at h
  · split at h
    · rename_i l hl
      split at h
      · rename_i hc; cases h
        have e1 := unI_some hl
        rw [ic_ints] at e1
        obtain ⟨rfl, h1, h2, h3⟩ := hc
        rw [e1]
        exact r4Bends_c _ ⟨_, _, _, _, _⟩ h1 h2 h3
      · cases h
    · cases h
  · cases h
attribute [go_sem] rBends
noncomputable def spR3 : Pm.Spec := (spR2.one 58 rAsked).one 89 rBends
@[go_sem] theorem spR3_p (f : FuncId) (xs : List TV) : spR3.p f xs = Pm.Spec.p ((spR2.one 58 rAsked).one 89 rBends) f xs := rfl
@[go_sem] theorem spR3_h (f : FuncId) (ps : List PV) (hl : List PO) : spR3.h f ps hl = Pm.Spec.h ((spR2.one 58 rAsked).one 89 rBends) f ps hl := rfl
@[go_sem] theorem spR3_fz (f : FuncId) : spR3.fz f = Pm.Spec.fz ((spR2.one 58 rAsked).one 89 rBends) f := rfl
@[go_sem] theorem spR3_fr (f : FuncId) : spR3.fr f = Pm.Spec.fr ((spR2.one 58 rAsked).one 89 rBends) f := rfl
@[go_sem] theorem spR3_mu (t : TypeId) : spR3.mu t = Pm.Spec.mu ((spR2.one 58 rAsked).one 89 rBends) t := rfl
theorem spR3_ok : SpecOk Try.prog spR3 := Spec.one_ok rBends_ok (Spec.one_ok rAsked_ok spR2_ok)
/-- What the specification reckons. -/
theorem r4SeenV_c {ix co cu : List Int} (f1 f2 f3 : Bool) (o : Ob) (h1 : 0 ≤ o.f ∧ o.f < ix.length) (h2 : 0 ≤ o.s ∧ o.s < ix.length) (hl : co.length = ix.length) (ha : 0 ≤ o.a ∧ o.a < cu.length) (hb : 0 ≤ o.b ∧ o.b < cu.length) (hc : 0 ≤ o.c ∧ o.c < cu.length) :
    PCalls Try.prog 59 [o.t, .agg [.sl (ints ix) ix.length f1, .sl (ints co) co.length f2, .sl (ints cu) cu.length f3]] (.tup [.int .i64 (pwW (nth ix o.f) (nth ix o.s) (nth cu o.a) (nth cu o.b) (nth cu o.c)), .int .i64 (pwW (nth co o.f) (nth co o.s) (nth cu o.a) (nth cu o.b) (nth cu o.c))]) := by
  obtain ⟨of, os, oa, ob, oc⟩ := o
  simp only at h1 h2 ha hb hc ⊢
  obtain ⟨i, rfl⟩ := Int.eq_ofNat_of_zero_le h1.1
  obtain ⟨j, rfl⟩ := Int.eq_ofNat_of_zero_le h2.1
  have h3 : (i : Int) < co.length := by omega
  have h4 : (j : Int) < co.length := by omega
  obtain ⟨x, hx⟩ := get_lt h1.2
  obtain ⟨y, hy⟩ := get_lt h2.2
  obtain ⟨z, hz⟩ := get_lt h3
  obtain ⟨u, hu⟩ := get_lt h4
  have d1 := ints_at hx
  have d2 := ints_at hy
  have d3 := ints_at hz
  have d4 := ints_at hu
  rw [Nat.mul_one] at d1 d2 d3 d4
  refine pcalls_by Try.mixes spR3_ok (fn := Try.f59) Try.func59 rfl (by kernel_rfl) (by show 2 ≤ _; decide) ?_
  simp (decide := true) (maxSteps := 4000000) only [go_sem, Nat.reduceAdd, Nat.reduceSub, Nat.reduceMul, Nat.reduceDiv, Nat.reduceMod, Nat.reduceLT, Nat.reduceLeDiff, Nat.reduceEqDiff, Nat.reduceBEq, Nat.reduceBNe, Nat.reduceGT, Int.reduceAdd, Int.reduceSub, Int.reduceMul, Int.reduceNeg, Int.reduceLT, Int.reduceLE, Int.reduceEq, Int.reduceNe, Int.reduceBEq, Int.reduceBNe, Int.reduceToNat, Int.reduceGT, Int.reduceGE, ↓reduceIte, decide_true, decide_false, eq_self, Nat.mul_one, Nat.zero_mul, Nat.one_mul, Int.le_refl, Nat.le_refl, Int.cast_ofNat_Int, Try.f59, Ob.t, Ob.cs, unI_eq, h1.2, h2.2, h3, h4, d1, d2, d3, d4, ha, hb, hc, Int.toNat_natCast, nth_eq hx, nth_eq hy, nth_eq hz, nth_eq hu, pwW]
noncomputable def rSeenV : List TV → Option TV
  | [.agg [.int .i64 f, .int .i64 s, .int .i64 a, .int .i64 b, .int .i64 c], .agg [.sl c1 n1 f1, .sl c2 n2 f2, .sl c3 n3 f3]] => match unI c1, unI c2, unI c3 with
    | some ix, some co, some cu => if (n1 = ix.length ∧ n2 = co.length ∧ n3 = cu.length) ∧ (0 ≤ f ∧ f < ix.length) ∧ (0 ≤ s ∧ s < ix.length) ∧ co.length = ix.length ∧ (0 ≤ a ∧ a < cu.length) ∧ (0 ≤ b ∧ b < cu.length) ∧ 0 ≤ c ∧ c < cu.length then
        some (.tup [.int .i64 (pwW (nth ix f) (nth ix s) (nth cu a) (nth cu b) (nth cu c)), .int .i64 (pwW (nth co f) (nth co s) (nth cu a) (nth cu b) (nth cu c))]) else none
    | _, _, _ => none
  | _ => none
theorem rSeenV_ok : ∀ xs r, rSeenV xs = some r → PCalls Try.prog 59 xs r := by
  intro xs r h
  unfold rSeenV at h
  split at h
  · split at h
    · rename_i ix co cu e1 e2 e3
      split at h
      · rename_i hc; cases h
        have e1 := unI_some e1
        have e2 := unI_some e2
        have e3 := unI_some e3
        rw [ic_ints] at e1 e2 e3
        obtain ⟨⟨rfl, rfl, rfl⟩, h1, h2, hl, h3, h4, h5⟩ := hc
        rw [e1, e2, e3]
        exact r4SeenV_c _ _ _ ⟨_, _, _, _, _⟩ h1 h2 hl h3 h4 h5
      · cases h
    · cases h
  · cases h
attribute [go_sem] rSeenV
noncomputable def spR4 : Pm.Spec := spR3.one 59 rSeenV
@[go_sem] theorem spR4_p (f : FuncId) (xs : List TV) : spR4.p f xs = Pm.Spec.p (spR3.one 59 rSeenV) f xs := rfl
@[go_sem] theorem spR4_h (f : FuncId) (ps : List PV) (hl : List PO) : spR4.h f ps hl = Pm.Spec.h (spR3.one 59 rSeenV) f ps hl := rfl
@[go_sem] theorem spR4_fz (f : FuncId) : spR4.fz f = Pm.Spec.fz (spR3.one 59 rSeenV) f := rfl
@[go_sem] theorem spR4_fr (f : FuncId) : spR4.fr f = Pm.Spec.fr (spR3.one 59 rSeenV) f := rfl
@[go_sem] theorem spR4_mu (t : TypeId) : spR4.mu t = Pm.Spec.mu (spR3.one 59 rSeenV) t := rfl
theorem spR4_ok : SpecOk Try.prog spR4 := Spec.one_ok rSeenV_ok spR3_ok
end Go.Proofs.Ytcjcnmpecmbdeaa

/- Part Gs. -/
namespace Go.Oc
open Go Go.Pm
theorem set_of (p : Nat → Bool) : ∀ n : Nat, ∃ s, s < 2 ^ n ∧ ∀ i, i < n → s.testBit i = p i
  | 0 => ⟨0, by simp, fun i h => by omega⟩
  | n + 1 => by
    obtain ⟨s, h1, h2⟩ := set_of p n
    have hlt : s < 2 ^ (n + 1) := Nat.lt_of_lt_of_le h1 (Nat.pow_le_pow_right (by omega) (by omega))
    cases hp : p n with
    | false =>
      refine ⟨s, hlt, fun i hi => ?_⟩
      by_cases hin : i = n
      · subst hin; rw [hp]; exact Nat.testBit_lt_two_pow h1
      · exact h2 i (by omega)
    | true =>
      refine ⟨s ||| 2 ^ n, Nat.or_lt_two_pow hlt (Nat.pow_lt_pow_right (by omega) (by omega)), fun i hi => ?_⟩
      rw [Nat.testBit_or, Nat.testBit_two_pow]
      by_cases hin : i = n
      · subst hin; simp [hp]
      · rw [h2 i (by omega)]
        have : decide (n = i) = false := by simp; omega
        rw [this, Bool.or_false]
theorem nth_map {n : Nat} {f : Nat → Int} {i : Int} (h0 : 0 ≤ i) (h1 : i < n) : nth ((List.range n).map f) i = f i.toNat := by
  unfold nth
  rw [List.getD_eq_getElem?_getD, List.getElem?_map, List.getElem?_range (by omega)]; rfl
theorem hiOf_f {o : Ob} {bits : Nat} (h : 0 ≤ o.f) (hne : o.f ≠ o.s) : hiOf o bits o.f.toNat = bits.testBit 0 := by
  unfold hiOf
  rw [Int.toNat_of_nonneg h]
  have : (o.f == o.s) = false := by simpa using hne
  simp [this]
theorem hiOf_s {o : Ob} {bits : Nat} (h : 0 ≤ o.s) (hne : o.f ≠ o.s) : hiOf o bits o.s.toNat = bits.testBit 1 := by
  unfold hiOf
  rw [Int.toNat_of_nonneg h]
  have : (o.s == o.f) = false := by simpa using fun e : o.s = o.f => hne e.symm
  simp [this]
/-- In the corner that bits choose: power and colour. -/
def bitsG (bits : Nat) (t : Int) : Bool := bits.testBit (2 + t.toNat)
theorem corner_seen {B : List Blank} {T : List Span} {o : Ob} (ho : obOk B.length T.length o = true) (bits : Nat) :
    (nth (cIx B o bits B.length) o.f = endS (blankAt B o.f).i (bits.testBit 0) ∧ nth (cIx B o bits B.length) o.s = endS (blankAt B o.s).i (bits.testBit 1)) ∧
    (nth (cCo B o bits B.length) o.f = endS (blankAt B o.f).c (bits.testBit 0) ∧ nth (cCo B o bits B.length) o.s = endS (blankAt B o.s).c (bits.testBit 1)) ∧
    ∀ t : Int, 0 ≤ t → t < T.length → nth (cCu T bits T.length) t = endS (toolAt T t) (bitsG bits t) := by
  obtain ⟨a, b, c, d, e, f⟩ := obOk_iff.1 ho
  have e1 : ((o.f.toNat : Nat) : Int) = o.f := Int.toNat_of_nonneg a.1
  have e2 : ((o.s.toNat : Nat) : Int) = o.s := Int.toNat_of_nonneg b.1
  unfold cIx cCo cCu
  refine ⟨⟨?_, ?_⟩, ⟨?_, ?_⟩, fun t h0 h1 => ?_⟩
  · rw [nth_map a.1 (by omega), hiOf_f a.1 c, e1]
  · rw [nth_map b.1 (by omega), hiOf_s b.1 c, e2]
  · rw [nth_map a.1 (by omega), hiOf_f a.1 c, e1]
  · rw [nth_map b.1 (by omega), hiOf_s b.1 c, e2]
  · rw [nth_map h0 h1, Int.toNat_of_nonneg h0]; rfl
/-- All corners of the specification. -/
def refV (s1 s2 : Span) (T : List Span) (o : Ob) (bits : Nat) : Int := endV s1 s2 T o (bits.testBit 0) (bits.testBit 1) (bitsG bits)
def refL (s1 s2 : Span) (T : List Span) (o : Ob) (k : Nat) : List Int := (List.range k).map (refV s1 s2 T o)
theorem refL_succ (s1 s2 : Span) (T : List Span) (o : Ob) (k : Nat) : refL s1 s2 T o (k + 1) = refL s1 s2 T o k ++ [refV s1 s2 T o k] := by unfold refL; rw [List.range_succ, List.map_append]; rfl
theorem refL_all {B : List Blank} {T : List Span} {o : Ob} (ho : obOk B.length T.length o = true) (s1 s2 : Span) : minmax (refL s1 s2 T o (2 ^ (T.length + 2))) = minmax (corners s1 s2 (toolAt T o.a) (toolAt T o.b) (toolAt T o.c) o 32) := by
  obtain ⟨_, _, _, d, e, f⟩ := obOk_iff.1 ho
  have hpos : 0 < 2 ^ (T.length + 2) := Nat.pow_pos (by omega)
  refine minmax_ext ?_ (corners_ne _ _ _ _ _ _) fun v => ?_
  · intro h
    have := congrArg List.length h
    unfold refL at this
    rw [List.length_map, List.length_range, List.length_nil] at this
    omega
  · rw [corner_iff]
    unfold refL
    rw [List.mem_map]
    constructor
    · rintro ⟨bits, _, rfl⟩
      exact ⟨_, _, _, rfl⟩
    · rintro ⟨hi, hj, g, rfl⟩
      obtain ⟨s, h1, h2⟩ := set_of (fun i => if i = 0 then hi else if i = 1 then hj else g ((i : Int) - 2)) (T.length + 2)
      refine ⟨s, List.mem_range.2 h1, ?_⟩
      have q0 := h2 0 (by omega)
      have q1 := h2 1 (by omega)
      simp only [if_true, Nat.one_ne_zero, if_false] at q0 q1
      have qt : ∀ t : Int, 0 ≤ t → t ≤ (T.length : Int) - 1 → bitsG s t = g t := by
        intro t h3 h4
        unfold bitsG
        rw [h2 (2 + t.toNat) (by omega), if_neg (by omega), if_neg (by omega)]
        congr 1
        omega
      unfold refV endV
      rw [q0, q1, qt _ d.1 d.2, qt _ e.1 e.2, qt _ f.1 f.2]
theorem minmax_wider (l : List Int) (v : Int) (k : Nat) (hl : l.length = k) : widerS (minmax l) v ((k : Int) == 0) = minmax (l ++ [v]) := by
  cases l with
  | nil => simp only [List.length_nil] at hl; subst hl; rfl
  | cons x l =>
    have : ((k : Int) == 0) = false := by rw [← hl]; simp; omega
    rw [this, minmax_snoc _ _ (by simp)]; rfl
theorem refL_len (s1 s2 : Span) (T : List Span) (o : Ob) (k : Nat) : (refL s1 s2 T o k).length = k := by simp [refL]
end Go.Oc
namespace Go.Proofs.Ytcjcnmpecmbdeaa
open Go.RowKit Go.Pm Go.Oc
set_option maxRecDepth 100000
set_option linter.unusedVariables false
set_option maxHeartbeats 4000000

theorem r4Corner_c {B : List Blank} {T : List Span} (fB fT : Bool) (h1 : 1 ≤ B.length ∧ B.length ≤ 8) (h2 : 1 ≤ T.length ∧ T.length ≤ 6) (o : Ob) (bits : Nat) : PCalls Try.prog 93 [.agg [.sl (B.flatMap Blank.cs) B.length fB, .sl (T.flatMap Span.cs) T.length fT], o.t, .int .i64 bits]
    (.agg [.sl (ints (cIx B o bits B.length)) B.length false, .sl (ints (cCo B o bits B.length)) B.length false, .sl (ints (cCu T bits T.length)) T.length false]) := by
  have b0 : 0 ≤ (bits : Int) := by omega
  refine pcalls_by Try.mixes spR4_ok (fn := Try.f93) Try.func93 rfl (by kernel_rfl) (by show 3 ≤ _; decide) ?_
  simp (decide := true) (maxSteps := 4000000) only [go_sem, Nat.reduceAdd, Nat.reduceSub, Nat.reduceMul, Nat.reduceDiv, Nat.reduceMod, Nat.reduceLT, Nat.reduceLeDiff, Nat.reduceEqDiff, Nat.reduceBEq, Nat.reduceBNe, Nat.reduceGT, Int.reduceAdd, Int.reduceSub, Int.reduceMul, Int.reduceNeg, Int.reduceLT, Int.reduceLE, Int.reduceEq, Int.reduceNe, Int.reduceBEq, Int.reduceBNe, Int.reduceToNat, Int.reduceGT, Int.reduceGE, ↓reduceIte, decide_true, decide_false, eq_self, Nat.mul_one, Nat.zero_mul, Nat.one_mul, Int.le_refl, Nat.le_refl, Int.cast_ofNat_Int, Try.f93, Ob.t, Ob.cs]
  refine pwpC_loopU (A := { k : Nat // k ≤ B.length }) [2, 3, 4, 6, 7] (fun k => [(8, .t (.int .i64 k.1))]) (fun k => [(3, .box [.own (ints (cIx B o bits k.1)) k.1 4, .own (ints (cCo B o bits k.1)) k.1 5, .t .nilSl]), (4, .tok k.1 3), (5, .tok k.1 3)]) (fun k => B.length - k.1) ⟨0, by omega⟩ (by decide) (fun _ => by rfl) ?_ fun Q1 hQ1 ⟨k, hk⟩ I1 hI1 => ?_
  · simp (decide := true) (maxSteps := 4000000) only [go_sem, Nat.reduceAdd, Nat.reduceSub, Nat.reduceMul, Nat.reduceDiv, Nat.reduceMod, Nat.reduceLT, Nat.reduceLeDiff, Nat.reduceEqDiff, Nat.reduceBEq, Nat.reduceBNe, Nat.reduceGT, Int.reduceAdd, Int.reduceSub, Int.reduceMul, Int.reduceNeg, Int.reduceLT, Int.reduceLE, Int.reduceEq, Int.reduceNe, Int.reduceBEq, Int.reduceBNe, Int.reduceToNat, Int.reduceGT, Int.reduceGE, ↓reduceIte, decide_true, decide_false, eq_self, Nat.mul_one, Nat.zero_mul, Nat.one_mul, Int.le_refl, Nat.le_refl, Int.cast_ofNat_Int, cIx, cCo, List.range_zero, List.map_nil, ints]
    first | done | exact ⟨rfl, rfl⟩
  · by_cases hlt : (k : Int) < B.length
    · obtain ⟨x, hx⟩ := get_lt hlt
      have hd := flat_at Blank.cs (n := 5) (fun _ => rfl) hx
      have hc1 : IntKind.i64.wrap (k + 1) = ((k + 1 : Nat) : Int) := by rw [wrap_in (by omega) (by omega)]; omega
      have s1 := cIx_succ B o bits k
      have s2 := cCo_succ B o bits k
      rw [blankAt_eq hx] at s1 s2
      have el1 : (ints (cIx B o bits k)).length = k := by rw [ints_len, cIx_len]
      have el2 : (ints (cCo B o bits k)).length = k := by rw [ints_len, cCo_len]
      have hroom : (k + 1) * 8 ≤ 140737488355328 := by omega
      have hhi : hiOf o bits k = (((k : Int) == o.f && bits.testBit 0) || ((k : Int) == o.s && bits.testBit 1)) := rfl
      cases g1 : ((k : Int) == o.f) <;> cases g2 : ((k : Int) == o.s) <;> cases g3 : bits.testBit 0 <;> cases g4 : bits.testBit 1 <;> rw [g1, g2, g3, g4] at hhi <;> simp only [Bool.and_true, Bool.and_false, Bool.or_true, Bool.or_false, Bool.true_and, Bool.false_and, Bool.and_self, Bool.or_self] at hhi <;> rw [hhi] at s1 s2
      all_goals simp (decide := true) (maxSteps := 4000000) only [go_sem, Nat.reduceAdd, Nat.reduceSub, Nat.reduceMul, Nat.reduceDiv, Nat.reduceMod, Nat.reduceLT, Nat.reduceLeDiff, Nat.reduceEqDiff, Nat.reduceBEq, Nat.reduceBNe, Nat.reduceGT, Int.reduceAdd, Int.reduceSub, Int.reduceMul, Int.reduceNeg, Int.reduceLT, Int.reduceLE, Int.reduceEq, Int.reduceNe, Int.reduceBEq, Int.reduceBNe, Int.reduceToNat, Int.reduceGT, Int.reduceGE, ↓reduceIte, decide_true, decide_false, eq_self, Nat.mul_one, Nat.zero_mul, Nat.one_mul, Int.le_refl, Nat.le_refl, Int.cast_ofNat_Int, hlt, b0, hd, Blank.cs, g1, g2, g3, g4, el1, el2, hroom, Int.toNat_natCast]
      all_goals refine hI1 _ ⟨k + 1, by omega⟩ (by simp only; omega) ?_
      all_goals simp (decide := true) (maxSteps := 4000000) only [go_sem, Nat.reduceAdd, Nat.reduceSub, Nat.reduceMul, Nat.reduceDiv, Nat.reduceMod, Nat.reduceLT, Nat.reduceLeDiff, Nat.reduceEqDiff, Nat.reduceBEq, Nat.reduceBNe, Nat.reduceGT, Int.reduceAdd, Int.reduceSub, Int.reduceMul, Int.reduceNeg, Int.reduceLT, Int.reduceLE, Int.reduceEq, Int.reduceNe, Int.reduceBEq, Int.reduceBNe, Int.reduceToNat, Int.reduceGT, Int.reduceGE, ↓reduceIte, decide_true, decide_false, eq_self, Nat.mul_one, Nat.zero_mul, Nat.one_mul, Int.le_refl, Nat.le_refl, Int.cast_ofNat_Int, hc1, s1, s2, ints_snoc']
    · have hke : k = B.length := by omega
      subst hke
      simp (decide := true) (maxSteps := 4000000) only [go_sem, Nat.reduceAdd, Nat.reduceSub, Nat.reduceMul, Nat.reduceDiv, Nat.reduceMod, Nat.reduceLT, Nat.reduceLeDiff, Nat.reduceEqDiff, Nat.reduceBEq, Nat.reduceBNe, Nat.reduceGT, Int.reduceAdd, Int.reduceSub, Int.reduceMul, Int.reduceNeg, Int.reduceLT, Int.reduceLE, Int.reduceEq, Int.reduceNe, Int.reduceBEq, Int.reduceBNe, Int.reduceToNat, Int.reduceGT, Int.reduceGE, ↓reduceIte, decide_true, decide_false, eq_self, Nat.mul_one, Nat.zero_mul, Nat.one_mul, Int.le_refl, Nat.le_refl, Int.cast_ofNat_Int, hlt]
      refine hQ1 _ _ ?_
      simp (decide := true) (maxSteps := 4000000) only [go_sem, Nat.reduceAdd, Nat.reduceSub, Nat.reduceMul, Nat.reduceDiv, Nat.reduceMod, Nat.reduceLT, Nat.reduceLeDiff, Nat.reduceEqDiff, Nat.reduceBEq, Nat.reduceBNe, Nat.reduceGT, Int.reduceAdd, Int.reduceSub, Int.reduceMul, Int.reduceNeg, Int.reduceLT, Int.reduceLE, Int.reduceEq, Int.reduceNe, Int.reduceBEq, Int.reduceBNe, Int.reduceToNat, Int.reduceGT, Int.reduceGE, ↓reduceIte, decide_true, decide_false, eq_self, Nat.mul_one, Nat.zero_mul, Nat.one_mul, Int.le_refl, Nat.le_refl, Int.cast_ofNat_Int]
      refine pwpC_loopU (A := { k : Nat // k ≤ T.length }) [2, 3, 4, 6, 7] (fun k => [(10, .t (.int .i64 k.1))]) (fun k => [(3, .box [.own (ints (cIx B o bits B.length)) B.length 4, .own (ints (cCo B o bits B.length)) B.length 5, .own (ints (cCu T bits k.1)) k.1 6]), (6, .tok k.1 3)]) (fun k => T.length - k.1) ⟨0, by omega⟩ (by decide) (fun _ => by rfl) ?_ fun Q2 hQ2 ⟨m, hm⟩ I2 hI2 => ?_
      · simp (decide := true) (maxSteps := 4000000) only [go_sem, Nat.reduceAdd, Nat.reduceSub, Nat.reduceMul, Nat.reduceDiv, Nat.reduceMod, Nat.reduceLT, Nat.reduceLeDiff, Nat.reduceEqDiff, Nat.reduceBEq, Nat.reduceBNe, Nat.reduceGT, Int.reduceAdd, Int.reduceSub, Int.reduceMul, Int.reduceNeg, Int.reduceLT, Int.reduceLE, Int.reduceEq, Int.reduceNe, Int.reduceBEq, Int.reduceBNe, Int.reduceToNat, Int.reduceGT, Int.reduceGE, ↓reduceIte, decide_true, decide_false, eq_self, Nat.mul_one, Nat.zero_mul, Nat.one_mul, Int.le_refl, Nat.le_refl, Int.cast_ofNat_Int, cCu, List.range_zero, List.map_nil, ints]
        first | done | rfl
      · by_cases hlt2 : (m : Int) < T.length
        · obtain ⟨y, hy⟩ := get_lt hlt2
          have hd := flat_at Span.cs (n := 2) (fun _ => rfl) hy
          have hc1 : IntKind.i64.wrap (m + 1) = ((m + 1 : Nat) : Int) := by rw [wrap_in (by omega) (by omega)]; omega
          have hc2 : IntKind.i64.wrap (2 + m) = ((2 + m : Nat) : Int) := by rw [wrap_in (by omega) (by omega)]; omega
          have s3 := cCu_succ T bits m
          rw [toolAt_eq hy] at s3
          have el3 : (ints (cCu T bits m)).length = m := by rw [ints_len, cCu_len]
          have hroom : (m + 1) * 8 ≤ 140737488355328 := by omega
          have hb : 0 ≤ (bits : Int) ∧ 0 ≤ ((2 + m : Nat) : Int) ∧ ((2 + m : Nat) : Int) < 64 := by omega
          simp (decide := true) (maxSteps := 4000000) only [go_sem, Nat.reduceAdd, Nat.reduceSub, Nat.reduceMul, Nat.reduceDiv, Nat.reduceMod, Nat.reduceLT, Nat.reduceLeDiff, Nat.reduceEqDiff, Nat.reduceBEq, Nat.reduceBNe, Nat.reduceGT, Int.reduceAdd, Int.reduceSub, Int.reduceMul, Int.reduceNeg, Int.reduceLT, Int.reduceLE, Int.reduceEq, Int.reduceNe, Int.reduceBEq, Int.reduceBNe, Int.reduceToNat, Int.reduceGT, Int.reduceGE, ↓reduceIte, decide_true, decide_false, eq_self, Nat.mul_one, Nat.zero_mul, Nat.one_mul, Int.le_refl, Nat.le_refl, Int.cast_ofNat_Int, hlt2, hc2, hb, hd, Span.cs, el3, hroom, Int.toNat_natCast]
          refine hI2 _ ⟨m + 1, by omega⟩ (by simp only; omega) ?_
          simp (decide := true) (maxSteps := 4000000) only [go_sem, Nat.reduceAdd, Nat.reduceSub, Nat.reduceMul, Nat.reduceDiv, Nat.reduceMod, Nat.reduceLT, Nat.reduceLeDiff, Nat.reduceEqDiff, Nat.reduceBEq, Nat.reduceBNe, Nat.reduceGT, Int.reduceAdd, Int.reduceSub, Int.reduceMul, Int.reduceNeg, Int.reduceLT, Int.reduceLE, Int.reduceEq, Int.reduceNe, Int.reduceBEq, Int.reduceBNe, Int.reduceToNat, Int.reduceGT, Int.reduceGE, ↓reduceIte, decide_true, decide_false, eq_self, Nat.mul_one, Nat.zero_mul, Nat.one_mul, Int.le_refl, Nat.le_refl, Int.cast_ofNat_Int, hc1, s3, ints_snoc']
        · have hme : m = T.length := by omega
          subst hme
          have n1 : ¬ B.length = 0 := by omega
          have n2 : ¬ T.length = 0 := by omega
          simp (decide := true) (maxSteps := 4000000) only [go_sem, Nat.reduceAdd, Nat.reduceSub, Nat.reduceMul, Nat.reduceDiv, Nat.reduceMod, Nat.reduceLT, Nat.reduceLeDiff, Nat.reduceEqDiff, Nat.reduceBEq, Nat.reduceBNe, Nat.reduceGT, Int.reduceAdd, Int.reduceSub, Int.reduceMul, Int.reduceNeg, Int.reduceLT, Int.reduceLE, Int.reduceEq, Int.reduceNe, Int.reduceBEq, Int.reduceBNe, Int.reduceToNat, Int.reduceGT, Int.reduceGE, ↓reduceIte, decide_true, decide_false, eq_self, Nat.mul_one, Nat.zero_mul, Nat.one_mul, Int.le_refl, Nat.le_refl, Int.cast_ofNat_Int, hlt2]
          refine hQ2 _ _ ?_
          simp (decide := true) (maxSteps := 4000000) only [go_sem, Nat.reduceAdd, Nat.reduceSub, Nat.reduceMul, Nat.reduceDiv, Nat.reduceMod, Nat.reduceLT, Nat.reduceLeDiff, Nat.reduceEqDiff, Nat.reduceBEq, Nat.reduceBNe, Nat.reduceGT, Int.reduceAdd, Int.reduceSub, Int.reduceMul, Int.reduceNeg, Int.reduceLT, Int.reduceLE, Int.reduceEq, Int.reduceNe, Int.reduceBEq, Int.reduceBNe, Int.reduceToNat, Int.reduceGT, Int.reduceGE, ↓reduceIte, decide_true, decide_false, eq_self, Nat.mul_one, Nat.zero_mul, Nat.one_mul, Int.le_refl, Nat.le_refl, Int.cast_ofNat_Int, n1, n2]
noncomputable def rCorner : List TV → Option TV
  | [.agg [.sl cB n fB, .sl cT m fT], .agg [.int .i64 f, .int .i64 s, .int .i64 a, .int .i64 b, .int .i64 c], .int .i64 bits] => match unBlanks cB, unSpans cT with
    | some B, some T => if n = B.length ∧ m = T.length ∧ (1 ≤ B.length ∧ B.length ≤ 8) ∧ (1 ≤ T.length ∧ T.length ≤ 6) ∧ 0 ≤ bits then
        some (.agg [.sl (ints (cIx B ⟨f, s, a, b, c⟩ bits.toNat B.length)) B.length false, .sl (ints (cCo B ⟨f, s, a, b, c⟩ bits.toNat B.length)) B.length false, .sl (ints (cCu T bits.toNat T.length)) T.length false]) else none
    | _, _ => none
  | _ => none
theorem rCorner_ok : ∀ xs r, rCorner xs = some r → PCalls Try.prog 93 xs r := by
  intro xs r h
  unfold rCorner at h
  split at h
  · rename_i cB n fB cT m fT f s a b c bits
    split at h
    · rename_i B T hB hT
      split at h
      · rename_i hc; cases h
        obtain ⟨rfl, rfl, h1, h2, h3⟩ := hc
        rw [unBlanks_some hB, unSpans_some hT]
        have := r4Corner_c (B := B) (T := T) fB fT h1 h2 ⟨f, s, a, b, c⟩ bits.toNat
        rw [Int.toNat_of_nonneg h3] at this
        exact this
      · cases h
    · cases h
  · cases h
attribute [go_sem] rCorner
noncomputable def spS1 : Pm.Spec := spR4.one 93 rCorner
@[go_sem] theorem spS1_p (f : FuncId) (xs : List TV) : spS1.p f xs = Pm.Spec.p (spR4.one 93 rCorner) f xs := rfl
@[go_sem] theorem spS1_h (f : FuncId) (ps : List PV) (hl : List PO) : spS1.h f ps hl = Pm.Spec.h (spR4.one 93 rCorner) f ps hl := rfl
@[go_sem] theorem spS1_fz (f : FuncId) : spS1.fz f = Pm.Spec.fz (spR4.one 93 rCorner) f := rfl
@[go_sem] theorem spS1_fr (f : FuncId) : spS1.fr f = Pm.Spec.fr (spR4.one 93 rCorner) f := rfl
@[go_sem] theorem spS1_mu (t : TypeId) : spS1.mu t = Pm.Spec.mu (spR4.one 93 rCorner) t := rfl
theorem spS1_ok : SpecOk Try.prog spS1 := Spec.one_ok rCorner_ok spR4_ok
end Go.Proofs.Ytcjcnmpecmbdeaa

/- Part Gt. -/
namespace Go.Proofs.Ytcjcnmpecmbdeaa
open Go.RowKit Go.Pm Go.Oc
set_option maxRecDepth 100000
set_option linter.unusedVariables false
set_option maxHeartbeats 4000000

theorem r4Spans_c {B : List Blank} {T : List Span} (fB fT : Bool) (hs : stockOk B T = true) (o : Ob) (ho : obOk B.length T.length o = true) : PCalls Try.prog 63 [.agg [.sl (B.flatMap Blank.cs) B.length fB, .sl (T.flatMap Span.cs) T.length fT], o.t] (.tup [(spansP B T o).p.t, (spansP B T o).c.t]) := by
  have hs' := stockOk_iff.1 hs
  have ho' := obOk_iff.1 ho
  obtain ⟨N, hN⟩ : ∃ N, 2 ^ (T.length + 2) = N := ⟨_, rfl⟩
  have hp : spansP B T o = ⟨minmax (refL (blankAt B o.f).i (blankAt B o.s).i T o N), minmax (refL (blankAt B o.f).c (blankAt B o.s).c T o N)⟩ := by
    rw [← hN, refL_all ho, refL_all ho]; rfl
  have hNb : 8 ≤ N ∧ N ≤ 256 := by
    rcases (show T.length = 1 ∨ T.length = 2 ∨ T.length = 3 ∨ T.length = 4 ∨ T.length = 5 ∨ T.length = 6 by omega) with e | e | e | e | e | e <;> rw [e] at hN <;> subst hN <;> decide
  have hlz : ¬ (T.length : Int) < 0 := by omega
  have hsh : IntKind.i64.wrap (4 * 2 ^ min T.length 64) = (N : Int) := by
    rcases (show T.length = 1 ∨ T.length = 2 ∨ T.length = 3 ∨ T.length = 4 ∨ T.length = 5 ∨ T.length = 6 by omega) with e | e | e | e | e | e <;> rw [e] at hN ⊢ <;> subst hN <;> rfl
  rw [hp]
  refine pcalls_by Try.mixes spS1_ok (fn := Try.f63) Try.func63 rfl (by kernel_rfl) (by show 2 ≤ _; decide) ?_
  simp (decide := true) (maxSteps := 4000000) only [go_sem, Nat.reduceAdd, Nat.reduceSub, Nat.reduceMul, Nat.reduceDiv, Nat.reduceMod, Nat.reduceLT, Nat.reduceLeDiff, Nat.reduceEqDiff, Nat.reduceBEq, Nat.reduceBNe, Nat.reduceGT, Int.reduceAdd, Int.reduceSub, Int.reduceMul, Int.reduceNeg, Int.reduceLT, Int.reduceLE, Int.reduceEq, Int.reduceNe, Int.reduceBEq, Int.reduceBNe, Int.reduceToNat, Int.reduceGT, Int.reduceGE, ↓reduceIte, decide_true, decide_false, eq_self, Nat.mul_one, Nat.zero_mul, Nat.one_mul, Int.le_refl, Nat.le_refl, Int.cast_ofNat_Int, Try.f63, Ob.t, Ob.cs]
  refine pwpC_loopU (A := { k : Nat // k ≤ N }) [2, 3, 4, 5, 6, 7] (fun k => [(8, .t (.int .i64 k.1))]) (fun k => [(4, .box ((minmax (refL (blankAt B o.f).i (blankAt B o.s).i T o k.1)).cs.map .t)), (5, .box ((minmax (refL (blankAt B o.f).c (blankAt B o.s).c T o k.1)).cs.map .t))]) (fun k => N - k.1) ⟨0, by omega⟩ (by decide) (fun _ => by rfl) ?_ fun Q1 hQ1 ⟨k, hk⟩ I1 hI1 => ?_
  · simp (decide := true) (maxSteps := 4000000) only [go_sem, Nat.reduceAdd, Nat.reduceSub, Nat.reduceMul, Nat.reduceDiv, Nat.reduceMod, Nat.reduceLT, Nat.reduceLeDiff, Nat.reduceEqDiff, Nat.reduceBEq, Nat.reduceBNe, Nat.reduceGT, Int.reduceAdd, Int.reduceSub, Int.reduceMul, Int.reduceNeg, Int.reduceLT, Int.reduceLE, Int.reduceEq, Int.reduceNe, Int.reduceBEq, Int.reduceBNe, Int.reduceToNat, Int.reduceGT, Int.reduceGE, ↓reduceIte, decide_true, decide_false, eq_self, Nat.mul_one, Nat.zero_mul, Nat.one_mul, Int.le_refl, Nat.le_refl, Int.cast_ofNat_Int, refL, List.range_zero, List.map_nil, minmax, Span.cs]
    first | done | exact ⟨rfl, rfl⟩
  · by_cases hlt : (k : Int) < N
    · have hc1 : IntKind.i64.wrap (k + 1) = ((k + 1 : Nat) : Int) := by rw [wrap_in (by omega) (by omega)]; omega
      obtain ⟨⟨c1, c2⟩, ⟨c3, c4⟩, c5⟩ := corner_seen ho k
      have w1 := minmax_wider (refL (blankAt B o.f).i (blankAt B o.s).i T o k) (refV (blankAt B o.f).i (blankAt B o.s).i T o k) k (refL_len ..)
      have w2 := minmax_wider (refL (blankAt B o.f).c (blankAt B o.s).c T o k) (refV (blankAt B o.f).c (blankAt B o.s).c T o k) k (refL_len ..)
      rw [← refL_succ] at w1 w2
      have b1 := blank_ok hs ho'.1.1 (by omega)
      have b2 := blank_ok hs ho'.2.1.1 (by omega)
      have t1 := tool_ok hs ho'.2.2.2.1.1 (by omega)
      have t2 := tool_ok hs ho'.2.2.2.2.1.1 (by omega)
      have t3 := tool_ok hs ho'.2.2.2.2.2.1 (by omega)
      have m1 := endS_mem b1.1.2.1 (k.testBit 0)
      have m2 := endS_mem b2.1.2.1 (k.testBit 1)
      have m3 := endS_mem b1.2.1.2.1 (k.testBit 0)
      have m4 := endS_mem b2.2.1.2.1 (k.testBit 1)
      have m5 := endS_mem t1.2.1 (bitsG k o.a)
      have m6 := endS_mem t2.2.1 (bitsG k o.b)
      have m7 := endS_mem t3.2.1 (bitsG k o.c)
      have p1 : pwW (nth (cIx B o k B.length) o.f) (nth (cIx B o k B.length) o.s) (nth (cCu T k T.length) o.a) (nth (cCu T k T.length) o.b) (nth (cCu T k T.length) o.c) = refV (blankAt B o.f).i (blankAt B o.s).i T o k := by
        rw [c1, c2, c5 _ ho'.2.2.2.1.1 (by omega), c5 _ ho'.2.2.2.2.1.1 (by omega), c5 _ ho'.2.2.2.2.2.1 (by omega)]
        exact (pw_wrap (by omega) (by omega) (by omega) (by omega) (by omega)).1
      have p2 : pwW (nth (cCo B o k B.length) o.f) (nth (cCo B o k B.length) o.s) (nth (cCu T k T.length) o.a) (nth (cCu T k T.length) o.b) (nth (cCu T k T.length) o.c) = refV (blankAt B o.f).c (blankAt B o.s).c T o k := by
        rw [c3, c4, c5 _ ho'.2.2.2.1.1 (by omega), c5 _ ho'.2.2.2.2.1.1 (by omega), c5 _ ho'.2.2.2.2.2.1 (by omega)]
        exact (pw_wrap (by omega) (by omega) (by omega) (by omega) (by omega)).1
      have q1 : (1 ≤ B.length ∧ B.length ≤ 8) ∧ (1 ≤ T.length ∧ T.length ≤ 6) ∧ 0 ≤ (k : Int) := by omega
      have q2 : (0 ≤ o.f ∧ o.f < B.length) ∧ (0 ≤ o.s ∧ o.s < B.length) ∧ (0 ≤ o.a ∧ o.a < T.length) ∧ (0 ≤ o.b ∧ o.b < T.length) ∧ 0 ≤ o.c ∧ o.c < T.length := by omega
      obtain ⟨⟨A0, A1⟩, hA⟩ : ∃ A, minmax (refL (blankAt B o.f).i (blankAt B o.s).i T o k) = A := ⟨_, rfl⟩
      obtain ⟨⟨C0, C1⟩, hC⟩ : ∃ A, minmax (refL (blankAt B o.f).c (blankAt B o.s).c T o k) = A := ⟨_, rfl⟩
      obtain ⟨⟨A2, A3⟩, hA2⟩ : ∃ A, minmax (refL (blankAt B o.f).i (blankAt B o.s).i T o (k + 1)) = A := ⟨_, rfl⟩
      obtain ⟨⟨C2, C3⟩, hC2⟩ : ∃ A, minmax (refL (blankAt B o.f).c (blankAt B o.s).c T o (k + 1)) = A := ⟨_, rfl⟩
      rw [hA, hA2] at w1
      rw [hC, hC2] at w2
      simp (decide := true) (maxSteps := 4000000) only [go_sem, Nat.reduceAdd, Nat.reduceSub, Nat.reduceMul, Nat.reduceDiv, Nat.reduceMod, Nat.reduceLT, Nat.reduceLeDiff, Nat.reduceEqDiff, Nat.reduceBEq, Nat.reduceBNe, Nat.reduceGT, Int.reduceAdd, Int.reduceSub, Int.reduceMul, Int.reduceNeg, Int.reduceLT, Int.reduceLE, Int.reduceEq, Int.reduceNe, Int.reduceBEq, Int.reduceBNe, Int.reduceToNat, Int.reduceGT, Int.reduceGE, ↓reduceIte, decide_true, decide_false, eq_self, Nat.mul_one, Nat.zero_mul, Nat.one_mul, Int.le_refl, Nat.le_refl, Int.cast_ofNat_Int, hlt, hlz, hsh, q1, q2, unI_eq, cIx_len, cCo_len, cCu_len, p1, p2, Int.toNat_natCast, Span.cs, hA, hC, w1, w2, Span.t]
      refine hI1 _ ⟨k + 1, by omega⟩ (by simp only; omega) ?_
      simp (decide := true) (maxSteps := 4000000) only [go_sem, Nat.reduceAdd, Nat.reduceSub, Nat.reduceMul, Nat.reduceDiv, Nat.reduceMod, Nat.reduceLT, Nat.reduceLeDiff, Nat.reduceEqDiff, Nat.reduceBEq, Nat.reduceBNe, Nat.reduceGT, Int.reduceAdd, Int.reduceSub, Int.reduceMul, Int.reduceNeg, Int.reduceLT, Int.reduceLE, Int.reduceEq, Int.reduceNe, Int.reduceBEq, Int.reduceBNe, Int.reduceToNat, Int.reduceGT, Int.reduceGE, ↓reduceIte, decide_true, decide_false, eq_self, Nat.mul_one, Nat.zero_mul, Nat.one_mul, Int.le_refl, Nat.le_refl, Int.cast_ofNat_Int, hc1, hA2, hC2, Span.cs]
    · have hke : k = N := by omega
      subst hke
      simp (decide := true) (maxSteps := 4000000) only [go_sem, Nat.reduceAdd, Nat.reduceSub, Nat.reduceMul, Nat.reduceDiv, Nat.reduceMod, Nat.reduceLT, Nat.reduceLeDiff, Nat.reduceEqDiff, Nat.reduceBEq, Nat.reduceBNe, Nat.reduceGT, Int.reduceAdd, Int.reduceSub, Int.reduceMul, Int.reduceNeg, Int.reduceLT, Int.reduceLE, Int.reduceEq, Int.reduceNe, Int.reduceBEq, Int.reduceBNe, Int.reduceToNat, Int.reduceGT, Int.reduceGE, ↓reduceIte, decide_true, decide_false, eq_self, Nat.mul_one, Nat.zero_mul, Nat.one_mul, Int.le_refl, Nat.le_refl, Int.cast_ofNat_Int, hlt, hlz, hsh]
      refine hQ1 _ _ ?_
      simp (decide := true) (maxSteps := 4000000) only [go_sem, Nat.reduceAdd, Nat.reduceSub, Nat.reduceMul, Nat.reduceDiv, Nat.reduceMod, Nat.reduceLT, Nat.reduceLeDiff, Nat.reduceEqDiff, Nat.reduceBEq, Nat.reduceBNe, Nat.reduceGT, Int.reduceAdd, Int.reduceSub, Int.reduceMul, Int.reduceNeg, Int.reduceLT, Int.reduceLE, Int.reduceEq, Int.reduceNe, Int.reduceBEq, Int.reduceBNe, Int.reduceToNat, Int.reduceGT, Int.reduceGE, ↓reduceIte, decide_true, decide_false, eq_self, Nat.mul_one, Nat.zero_mul, Nat.one_mul, Int.le_refl, Nat.le_refl, Int.cast_ofNat_Int, Span.cs, Span.t]
noncomputable def rSpans : List TV → Option TV
  | [.agg [.sl cB n fB, .sl cT m fT], .agg [.int .i64 f, .int .i64 s, .int .i64 a, .int .i64 b, .int .i64 c]] => match unBlanks cB, unSpans cT with
    | some B, some T => if n = B.length ∧ m = T.length ∧ stockOk B T = true ∧ obOk B.length T.length ⟨f, s, a, b, c⟩ = true then some (.tup [(spansP B T ⟨f, s, a, b, c⟩).p.t, (spansP B T ⟨f, s, a, b, c⟩).c.t]) else none
    | _, _ => none
  | _ => none
theorem rSpans_ok : ∀ xs r, rSpans xs = some r → PCalls Try.prog 63 xs r := by
  intro xs r h
  unfold rSpans at h
  split at h
  · split at h
    · rename_i B T hB hT
      split at h
      · rename_i hc; cases h
        obtain ⟨rfl, rfl, h1, h2⟩ := hc
        rw [unBlanks_some hB, unSpans_some hT]
        exact r4Spans_c _ _ h1 ⟨_, _, _, _, _⟩ h2
      · cases h
    · cases h
  · cases h
attribute [go_sem] rSpans
noncomputable def spT1 : Pm.Spec := spS1.one 63 rSpans
@[go_sem] theorem spT1_p (f : FuncId) (xs : List TV) : spT1.p f xs = Pm.Spec.p (spS1.one 63 rSpans) f xs := rfl
@[go_sem] theorem spT1_h (f : FuncId) (ps : List PV) (hl : List PO) : spT1.h f ps hl = Pm.Spec.h (spS1.one 63 rSpans) f ps hl := rfl
@[go_sem] theorem spT1_fz (f : FuncId) : spT1.fz f = Pm.Spec.fz (spS1.one 63 rSpans) f := rfl
@[go_sem] theorem spT1_fr (f : FuncId) : spT1.fr f = Pm.Spec.fr (spS1.one 63 rSpans) f := rfl
@[go_sem] theorem spT1_mu (t : TypeId) : spT1.mu t = Pm.Spec.mu (spS1.one 63 rSpans) t := rfl
theorem spT1_ok : SpecOk Try.prog spT1 := Spec.one_ok rSpans_ok spS1_ok
theorem want0 : wantOk ⟨⟨0, 0⟩, 0⟩ = true := rfl
theorem r4SpansE_c {B : List Blank} {T : List Span} {sB sT : TV} (hB : IsRow Blank.cs sB B) (hT : IsRow Span.cs sT T) (hlB : B.length ≤ 5864062014806) (hlT : T.length ≤ 9000000000000) (o : Ob) : PCalls Try.prog 21 [.agg [sB, sT], o.t] (.tup [(spansE B T o).1.p.t, (spansE B T o).1.c.t, .int .i64 (spansE B T o).2]) := by
  have u1 : unBlanks [] = some [] := rfl
  have u2 : unSpans [] = some [] := rfl
  refine pcalls_by Try.mixes spT1_ok (fn := Try.f21) Try.func21 rfl (by kernel_rfl) (by show 2 ≤ _; decide) ?_
  unfold spansE
  cases hs : stockOk B T with
  | false => rcases hB with ⟨rfl, rfl⟩ | ⟨fB, rfl⟩ <;> rcases hT with ⟨rfl, rfl⟩ | ⟨fT, rfl⟩ <;> simp (decide := true) (maxSteps := 4000000) only [go_sem, Nat.reduceAdd, Nat.reduceSub, Nat.reduceMul, Nat.reduceDiv, Nat.reduceMod, Nat.reduceLT, Nat.reduceLeDiff, Nat.reduceEqDiff, Nat.reduceBEq, Nat.reduceBNe, Nat.reduceGT, Int.reduceAdd, Int.reduceSub, Int.reduceMul, Int.reduceNeg, Int.reduceLT, Int.reduceLE, Int.reduceEq, Int.reduceNe, Int.reduceBEq, Int.reduceBNe, Int.reduceToNat, Int.reduceGT, Int.reduceGE, ↓reduceIte, decide_true, decide_false, eq_self, Nat.mul_one, Nat.zero_mul, Nat.one_mul, Int.le_refl, Nat.le_refl, Int.cast_ofNat_Int, Try.f21, Ob.t, Ob.cs, u1, u2, hlB, hlT, askedG, hs, Span.t, Span.cs, List.length_nil]
  | true =>
    have hs' := stockOk_iff.1 hs
    obtain ⟨fB, rfl⟩ := hB.ne (by omega)
    obtain ⟨fT, rfl⟩ := hT.ne (by omega)
    cases ho : obOk B.length T.length o with
    | false => simp (decide := true) (maxSteps := 4000000) only [go_sem, Nat.reduceAdd, Nat.reduceSub, Nat.reduceMul, Nat.reduceDiv, Nat.reduceMod, Nat.reduceLT, Nat.reduceLeDiff, Nat.reduceEqDiff, Nat.reduceBEq, Nat.reduceBNe, Nat.reduceGT, Int.reduceAdd, Int.reduceSub, Int.reduceMul, Int.reduceNeg, Int.reduceLT, Int.reduceLE, Int.reduceEq, Int.reduceNe, Int.reduceBEq, Int.reduceBNe, Int.reduceToNat, Int.reduceGT, Int.reduceGE, ↓reduceIte, decide_true, decide_false, eq_self, Nat.mul_one, Nat.zero_mul, Nat.one_mul, Int.le_refl, Nat.le_refl, Int.cast_ofNat_Int, Try.f21, Ob.t, Ob.cs, hlB, hlT, askedG, want0, hs, ho, Span.t, Span.cs]
    | true => simp (decide := true) (maxSteps := 4000000) only [go_sem, Nat.reduceAdd, Nat.reduceSub, Nat.reduceMul, Nat.reduceDiv, Nat.reduceMod, Nat.reduceLT, Nat.reduceLeDiff, Nat.reduceEqDiff, Nat.reduceBEq, Nat.reduceBNe, Nat.reduceGT, Int.reduceAdd, Int.reduceSub, Int.reduceMul, Int.reduceNeg, Int.reduceLT, Int.reduceLE, Int.reduceEq, Int.reduceNe, Int.reduceBEq, Int.reduceBNe, Int.reduceToNat, Int.reduceGT, Int.reduceGE, ↓reduceIte, decide_true, decide_false, eq_self, Nat.mul_one, Nat.zero_mul, Nat.one_mul, Int.le_refl, Nat.le_refl, Int.cast_ofNat_Int, Try.f21, Ob.t, Ob.cs, hlB, hlT, askedG, want0, hs, ho, Span.t, Span.cs]
theorem worst_eq {c : Span} (h1 : -4000000000000000000 ≤ c.lo) (h2 : c.lo ≤ c.hi) (h3 : c.hi ≤ 4000000000000000000) : max (max c.lo (IntKind.i64.wrap (0 - c.lo))) (max c.hi (IntKind.i64.wrap (0 - c.hi))) = worstS c := by
  unfold worstS
  rw [wrap_in (by omega) (by omega), wrap_in (by omega) (by omega)]
  omega
theorem r4Good_c {B : List Blank} {T : List Span} (fB fT : Bool) (hs : stockOk B T = true) (w : Want) (o : Ob) (ho : obOk B.length T.length o = true) : PCalls Try.prog 66 [.agg [.sl (B.flatMap Blank.cs) B.length fB, .sl (T.flatMap Span.cs) T.length fT], w.t, o.t] (.tup [.bool (goodB (spansP B T o) w), .int .i64 (worstS (spansP B T o).c)]) := by
  have hb := spansP_bound hs ho
  have hw := worst_eq (c := (spansP B T o).c) (by omega) (by omega) (by omega)
  refine pcalls_by Try.mixes spT1_ok (fn := Try.f66) Try.func66 rfl (by kernel_rfl) (by show 3 ≤ _; decide) ?_
  unfold goodB
  simp (decide := true) (maxSteps := 4000000) only [go_sem, Nat.reduceAdd, Nat.reduceSub, Nat.reduceMul, Nat.reduceDiv, Nat.reduceMod, Nat.reduceLT, Nat.reduceLeDiff, Nat.reduceEqDiff, Nat.reduceBEq, Nat.reduceBNe, Nat.reduceGT, Int.reduceAdd, Int.reduceSub, Int.reduceMul, Int.reduceNeg, Int.reduceLT, Int.reduceLE, Int.reduceEq, Int.reduceNe, Int.reduceBEq, Int.reduceBNe, Int.reduceToNat, Int.reduceGT, Int.reduceGE, ↓reduceIte, decide_true, decide_false, eq_self, Nat.mul_one, Nat.zero_mul, Nat.one_mul, Int.le_refl, Nat.le_refl, Int.cast_ofNat_Int, Try.f66, Ob.t, Ob.cs, Want.t, hs, ho, Span.t, Span.cs, hw]
end Go.Proofs.Ytcjcnmpecmbdeaa

/- Part Gy. -/
namespace Go.Proofs.Ytcjcnmpecmbdeaa
open Go.RowKit Go.Pm Go.Oc
set_option maxRecDepth 100000
set_option linter.unusedVariables false
set_option maxHeartbeats 4000000

noncomputable def rGoodV : List TV → Option TV
  | [.agg [.sl cB n fB, .sl cT m fT], .agg [.int .i64 x, .int .i64 y, .int .i64 z], .agg [.int .i64 f, .int .i64 s, .int .i64 a, .int .i64 b, .int .i64 c]] => match unBlanks cB, unSpans cT with
    | some B, some T => if n = B.length ∧ m = T.length ∧ stockOk B T = true ∧ obOk B.length T.length ⟨f, s, a, b, c⟩ = true then some (.tup [.bool (goodB (spansP B T ⟨f, s, a, b, c⟩) ⟨⟨x, y⟩, z⟩), .int .i64 (worstS (spansP B T ⟨f, s, a, b, c⟩).c)]) else none
    | _, _ => none
  | _ => none
theorem rGoodV_ok : ∀ xs r, rGoodV xs = some r → PCalls Try.prog 66 xs r := by
  intro xs r h
  unfold rGoodV at h
  split at h
  · split at h
    · rename_i B T hB hT
      split at h
      · rename_i hc; cases h
        obtain ⟨rfl, rfl, h1, h2⟩ := hc
        rw [unBlanks_some hB, unSpans_some hT]
        exact r4Good_c _ _ h1 ⟨⟨_, _⟩, _⟩ ⟨_, _, _, _, _⟩ h2
      · cases h
    · cases h
  · cases h
attribute [go_sem] rGoodV
noncomputable def spY1 : Pm.Spec := spT1.one 66 rGoodV
@[go_sem] theorem spY1_p (f : FuncId) (xs : List TV) : spY1.p f xs = Pm.Spec.p (spT1.one 66 rGoodV) f xs := rfl
@[go_sem] theorem spY1_h (f : FuncId) (ps : List PV) (hl : List PO) : spY1.h f ps hl = Pm.Spec.h (spT1.one 66 rGoodV) f ps hl := rfl
@[go_sem] theorem spY1_fz (f : FuncId) : spY1.fz f = Pm.Spec.fz (spT1.one 66 rGoodV) f := rfl
@[go_sem] theorem spY1_fr (f : FuncId) : spY1.fr f = Pm.Spec.fr (spT1.one 66 rGoodV) f := rfl
@[go_sem] theorem spY1_mu (t : TypeId) : spY1.mu t = Pm.Spec.mu (spT1.one 66 rGoodV) t := rfl
theorem spY1_ok : SpecOk Try.prog spY1 := Spec.one_ok rGoodV_ok spT1_ok
theorem r4GoodE_c {B : List Blank} {T : List Span} {sB sT : TV} (hB : IsRow Blank.cs sB B) (hT : IsRow Span.cs sT T) (hlB : B.length ≤ 5864062014806) (hlT : T.length ≤ 9000000000000) (w : Want) (o : Ob) : PCalls Try.prog 24 [.agg [sB, sT], w.t, o.t] (.tup [.bool (goodE B T w o).1, .int .i64 (goodE B T w o).2]) := by
  have u1 : unBlanks [] = some [] := rfl
  have u2 : unSpans [] = some [] := rfl
  refine pcalls_by Try.mixes spY1_ok (fn := Try.f24) Try.func24 rfl (by kernel_rfl) (by show 3 ≤ _; decide) ?_
  unfold goodE askedG
  cases hs : stockOk B T with
  | false => rcases hB with ⟨rfl, rfl⟩ | ⟨fB, rfl⟩ <;> rcases hT with ⟨rfl, rfl⟩ | ⟨fT, rfl⟩ <;> simp (decide := true) (maxSteps := 4000000) only [go_sem, Nat.reduceAdd, Nat.reduceSub, Nat.reduceMul, Nat.reduceDiv, Nat.reduceMod, Nat.reduceLT, Nat.reduceLeDiff, Nat.reduceEqDiff, Nat.reduceBEq, Nat.reduceBNe, Nat.reduceGT, Int.reduceAdd, Int.reduceSub, Int.reduceMul, Int.reduceNeg, Int.reduceLT, Int.reduceLE, Int.reduceEq, Int.reduceNe, Int.reduceBEq, Int.reduceBNe, Int.reduceToNat, Int.reduceGT, Int.reduceGE, ↓reduceIte, decide_true, decide_false, eq_self, Nat.mul_one, Nat.zero_mul, Nat.one_mul, Int.le_refl, Nat.le_refl, Int.cast_ofNat_Int, Try.f24, Ob.t, Ob.cs, Want.t, u1, u2, hlB, hlT, askedG, hs, List.length_nil]
  | true =>
    have hs' := stockOk_iff.1 hs
    obtain ⟨fB, rfl⟩ := hB.ne (by omega)
    obtain ⟨fT, rfl⟩ := hT.ne (by omega)
    cases hw : wantOk w with
    | false => simp (decide := true) (maxSteps := 4000000) only [go_sem, Nat.reduceAdd, Nat.reduceSub, Nat.reduceMul, Nat.reduceDiv, Nat.reduceMod, Nat.reduceLT, Nat.reduceLeDiff, Nat.reduceEqDiff, Nat.reduceBEq, Nat.reduceBNe, Nat.reduceGT, Int.reduceAdd, Int.reduceSub, Int.reduceMul, Int.reduceNeg, Int.reduceLT, Int.reduceLE, Int.reduceEq, Int.reduceNe, Int.reduceBEq, Int.reduceBNe, Int.reduceToNat, Int.reduceGT, Int.reduceGE, ↓reduceIte, decide_true, decide_false, eq_self, Nat.mul_one, Nat.zero_mul, Nat.one_mul, Int.le_refl, Nat.le_refl, Int.cast_ofNat_Int, Try.f24, Ob.t, Ob.cs, Want.t, hlB, hlT, askedG, hs, hw]
    | true =>
      cases ho : obOk B.length T.length o with
      | false => simp (decide := true) (maxSteps := 4000000) only [go_sem, Nat.reduceAdd, Nat.reduceSub, Nat.reduceMul, Nat.reduceDiv, Nat.reduceMod, Nat.reduceLT, Nat.reduceLeDiff, Nat.reduceEqDiff, Nat.reduceBEq, Nat.reduceBNe, Nat.reduceGT, Int.reduceAdd, Int.reduceSub, Int.reduceMul, Int.reduceNeg, Int.reduceLT, Int.reduceLE, Int.reduceEq, Int.reduceNe, Int.reduceBEq, Int.reduceBNe, Int.reduceToNat, Int.reduceGT, Int.reduceGE, ↓reduceIte, decide_true, decide_false, eq_self, Nat.mul_one, Nat.zero_mul, Nat.one_mul, Int.le_refl, Nat.le_refl, Int.cast_ofNat_Int, Try.f24, Ob.t, Ob.cs, Want.t, hlB, hlT, askedG, hs, hw, ho]
      | true => simp (decide := true) (maxSteps := 4000000) only [go_sem, Nat.reduceAdd, Nat.reduceSub, Nat.reduceMul, Nat.reduceDiv, Nat.reduceMod, Nat.reduceLT, Nat.reduceLeDiff, Nat.reduceEqDiff, Nat.reduceBEq, Nat.reduceBNe, Nat.reduceGT, Int.reduceAdd, Int.reduceSub, Int.reduceMul, Int.reduceNeg, Int.reduceLT, Int.reduceLE, Int.reduceEq, Int.reduceNe, Int.reduceBEq, Int.reduceBNe, Int.reduceToNat, Int.reduceGT, Int.reduceGE, ↓reduceIte, decide_true, decide_false, eq_self, Nat.mul_one, Nat.zero_mul, Nat.one_mul, Int.le_refl, Nat.le_refl, Int.cast_ofNat_Int, Try.f24, Ob.t, Ob.cs, Want.t, hlB, hlT, askedG, hs, hw, ho]
theorem r4Seen_c {B : List Blank} {T : List Span} {sB sT sI sC sK : TV} {ix co cu : List Int} (hB : IsRow Blank.cs sB B) (hT : IsRow Span.cs sT T) (hlB : B.length ≤ 5864062014806) (hlT : T.length ≤ 9000000000000) (hI : IsRow ic sI ix) (hC : IsRow ic sC co) (hK : IsRow ic sK cu) (o : Ob) :
    PCalls Try.prog 17 [.agg [sB, sT], o.t, .agg [sI, sC, sK]] (.tup [.int .i64 (seenP B T o ix co cu).1, .int .i64 (seenP B T o ix co cu).2.1, .int .i64 (seenP B T o ix co cu).2.2]) := by
  have u1 : unBlanks [] = some [] := rfl
  have u2 : unSpans [] = some [] := rfl
  refine pcalls_by Try.mixes spY1_ok (fn := Try.f17) Try.func17 rfl (by kernel_rfl) (by show 3 ≤ _; decide) ?_
  unfold seenP
  cases hs : stockOk B T with
  | false => rcases hB with ⟨rfl, rfl⟩ | ⟨fB, rfl⟩ <;> rcases hT with ⟨rfl, rfl⟩ | ⟨fT, rfl⟩ <;> simp (decide := true) (maxSteps := 4000000) only [go_sem, Nat.reduceAdd, Nat.reduceSub, Nat.reduceMul, Nat.reduceDiv, Nat.reduceMod, Nat.reduceLT, Nat.reduceLeDiff, Nat.reduceEqDiff, Nat.reduceBEq, Nat.reduceBNe, Nat.reduceGT, Int.reduceAdd, Int.reduceSub, Int.reduceMul, Int.reduceNeg, Int.reduceLT, Int.reduceLE, Int.reduceEq, Int.reduceNe, Int.reduceBEq, Int.reduceBNe, Int.reduceToNat, Int.reduceGT, Int.reduceGE, ↓reduceIte, decide_true, decide_false, eq_self, Nat.mul_one, Nat.zero_mul, Nat.one_mul, Int.le_refl, Nat.le_refl, Int.cast_ofNat_Int, Try.f17, Ob.t, Ob.cs, u1, u2, hlB, hlT, askedG, hs, List.length_nil]
  | true =>
    have hs' := stockOk_iff.1 hs
    obtain ⟨fB, rfl⟩ := hB.ne (by omega)
    obtain ⟨fT, rfl⟩ := hT.ne (by omega)
    cases ho : obOk B.length T.length o with
    | false => simp (decide := true) (maxSteps := 4000000) only [go_sem, Nat.reduceAdd, Nat.reduceSub, Nat.reduceMul, Nat.reduceDiv, Nat.reduceMod, Nat.reduceLT, Nat.reduceLeDiff, Nat.reduceEqDiff, Nat.reduceBEq, Nat.reduceBNe, Nat.reduceGT, Int.reduceAdd, Int.reduceSub, Int.reduceMul, Int.reduceNeg, Int.reduceLT, Int.reduceLE, Int.reduceEq, Int.reduceNe, Int.reduceBEq, Int.reduceBNe, Int.reduceToNat, Int.reduceGT, Int.reduceGE, ↓reduceIte, decide_true, decide_false, eq_self, Nat.mul_one, Nat.zero_mul, Nat.one_mul, Int.le_refl, Nat.le_refl, Int.cast_ofNat_Int, Try.f17, Ob.t, Ob.cs, hlB, hlT, askedG, want0, hs, ho]
    | true =>
      have ho' := obOk_iff.1 ho
      have z0 : ((0 : Int) == (B.length : Int)) = false := beq_int_f (by omega)
      have z1 : ((0 : Int) == (T.length : Int)) = false := beq_int_f (by omega)
      have no : ∀ (l1 l2 : Nat), True := fun _ _ => trivial
      by_cases hl1 : ix.length = B.length
      · obtain ⟨fI, rfl⟩ := hI.ne (by omega)
        have h1 : ((ix.length : Int) == (B.length : Int)) = true := beq_int_t (by omega)
        by_cases hl2 : co.length = B.length
        · obtain ⟨fC, rfl⟩ := hC.ne (by omega)
          have h2 : ((co.length : Int) == (B.length : Int)) = true := beq_int_t (by omega)
          by_cases hl3 : cu.length = T.length
          · obtain ⟨fK, rfl⟩ := hK.ne (by omega)
            have h3 : ((cu.length : Int) == (T.length : Int)) = true := beq_int_t (by omega)
            have hto : truthOk B T ix co cu = (tOkB B ix co B.length && tOkT T cu T.length) := by unfold truthOk; simp [hl1, hl2, hl3]
            rw [hto]
            simp (decide := true) (maxSteps := 4000000) only [go_sem, Nat.reduceAdd, Nat.reduceSub, Nat.reduceMul, Nat.reduceDiv, Nat.reduceMod, Nat.reduceLT, Nat.reduceLeDiff, Nat.reduceEqDiff, Nat.reduceBEq, Nat.reduceBNe, Nat.reduceGT, Int.reduceAdd, Int.reduceSub, Int.reduceMul, Int.reduceNeg, Int.reduceLT, Int.reduceLE, Int.reduceEq, Int.reduceNe, Int.reduceBEq, Int.reduceBNe, Int.reduceToNat, Int.reduceGT, Int.reduceGE, ↓reduceIte, decide_true, decide_false, eq_self, Nat.mul_one, Nat.zero_mul, Nat.one_mul, Int.le_refl, Nat.le_refl, Int.cast_ofNat_Int, Try.f17, Ob.t, Ob.cs, hlB, hlT, askedG, want0, hs, ho, h1, h2, h3, ic_ints]
            refine pwpC_loopU (A := { k : Nat // k ≤ B.length }) [3, 4, 5] (fun k => [(11, .t (.int .i64 k.1)), (10, .t (.bool (tOkB B ix co k.1)))]) (fun _ => []) (fun k => B.length - k.1) ⟨0, by omega⟩ (by decide) (fun _ => by rfl) ?_ fun Q1 hQ1 ⟨k, hk⟩ I1 hI1 => ?_
            · simp (decide := true) (maxSteps := 4000000) only [go_sem, Nat.reduceAdd, Nat.reduceSub, Nat.reduceMul, Nat.reduceDiv, Nat.reduceMod, Nat.reduceLT, Nat.reduceLeDiff, Nat.reduceEqDiff, Nat.reduceBEq, Nat.reduceBNe, Nat.reduceGT, Int.reduceAdd, Int.reduceSub, Int.reduceMul, Int.reduceNeg, Int.reduceLT, Int.reduceLE, Int.reduceEq, Int.reduceNe, Int.reduceBEq, Int.reduceBNe, Int.reduceToNat, Int.reduceGT, Int.reduceGE, ↓reduceIte, decide_true, decide_false, eq_self, Nat.mul_one, Nat.zero_mul, Nat.one_mul, Int.le_refl, Nat.le_refl, Int.cast_ofNat_Int, tOkB, List.range_zero, List.all_nil]
              first | done | rfl
            · rcases (Bool.eq_false_or_eq_true (tOkB B ix co k)).symm with hok | hok
              · have hno := tOkB_no hok hk
                simp (decide := true) (maxSteps := 4000000) only [go_sem, Nat.reduceAdd, Nat.reduceSub, Nat.reduceMul, Nat.reduceDiv, Nat.reduceMod, Nat.reduceLT, Nat.reduceLeDiff, Nat.reduceEqDiff, Nat.reduceBEq, Nat.reduceBNe, Nat.reduceGT, Int.reduceAdd, Int.reduceSub, Int.reduceMul, Int.reduceNeg, Int.reduceLT, Int.reduceLE, Int.reduceEq, Int.reduceNe, Int.reduceBEq, Int.reduceBNe, Int.reduceToNat, Int.reduceGT, Int.reduceGE, ↓reduceIte, decide_true, decide_false, eq_self, Nat.mul_one, Nat.zero_mul, Nat.one_mul, Int.le_refl, Nat.le_refl, Int.cast_ofNat_Int, hok]
                refine hQ1 _ _ ?_
                simp (decide := true) (maxSteps := 4000000) only [go_sem, Nat.reduceAdd, Nat.reduceSub, Nat.reduceMul, Nat.reduceDiv, Nat.reduceMod, Nat.reduceLT, Nat.reduceLeDiff, Nat.reduceEqDiff, Nat.reduceBEq, Nat.reduceBNe, Nat.reduceGT, Int.reduceAdd, Int.reduceSub, Int.reduceMul, Int.reduceNeg, Int.reduceLT, Int.reduceLE, Int.reduceEq, Int.reduceNe, Int.reduceBEq, Int.reduceBNe, Int.reduceToNat, Int.reduceGT, Int.reduceGE, ↓reduceIte, decide_true, decide_false, eq_self, Nat.mul_one, Nat.zero_mul, Nat.one_mul, Int.le_refl, Nat.le_refl, Int.cast_ofNat_Int]
                refine pwpC_loopU (A := Unit) [3, 4, 5] (fun _ => [(12, .t (.int .i64 0)), (10, .t (.bool false))]) (fun _ => []) (fun _ => 0) () (by decide) (fun _ => by rfl) ?_ fun Q2 hQ2 _ I2 hI2 => ?_
                · simp (decide := true) (maxSteps := 4000000) only [go_sem, Nat.reduceAdd, Nat.reduceSub, Nat.reduceMul, Nat.reduceDiv, Nat.reduceMod, Nat.reduceLT, Nat.reduceLeDiff, Nat.reduceEqDiff, Nat.reduceBEq, Nat.reduceBNe, Nat.reduceGT, Int.reduceAdd, Int.reduceSub, Int.reduceMul, Int.reduceNeg, Int.reduceLT, Int.reduceLE, Int.reduceEq, Int.reduceNe, Int.reduceBEq, Int.reduceBNe, Int.reduceToNat, Int.reduceGT, Int.reduceGE, ↓reduceIte, decide_true, decide_false, eq_self, Nat.mul_one, Nat.zero_mul, Nat.one_mul, Int.le_refl, Nat.le_refl, Int.cast_ofNat_Int, hok]
                · simp (decide := true) (maxSteps := 4000000) only [go_sem, Nat.reduceAdd, Nat.reduceSub, Nat.reduceMul, Nat.reduceDiv, Nat.reduceMod, Nat.reduceLT, Nat.reduceLeDiff, Nat.reduceEqDiff, Nat.reduceBEq, Nat.reduceBNe, Nat.reduceGT, Int.reduceAdd, Int.reduceSub, Int.reduceMul, Int.reduceNeg, Int.reduceLT, Int.reduceLE, Int.reduceEq, Int.reduceNe, Int.reduceBEq, Int.reduceBNe, Int.reduceToNat, Int.reduceGT, Int.reduceGE, ↓reduceIte, decide_true, decide_false, eq_self, Nat.mul_one, Nat.zero_mul, Nat.one_mul, Int.le_refl, Nat.le_refl, Int.cast_ofNat_Int]
                  refine hQ2 _ _ ?_
                  simp (decide := true) (maxSteps := 4000000) only [go_sem, Nat.reduceAdd, Nat.reduceSub, Nat.reduceMul, Nat.reduceDiv, Nat.reduceMod, Nat.reduceLT, Nat.reduceLeDiff, Nat.reduceEqDiff, Nat.reduceBEq, Nat.reduceBNe, Nat.reduceGT, Int.reduceAdd, Int.reduceSub, Int.reduceMul, Int.reduceNeg, Int.reduceLT, Int.reduceLE, Int.reduceEq, Int.reduceNe, Int.reduceBEq, Int.reduceBNe, Int.reduceToNat, Int.reduceGT, Int.reduceGE, ↓reduceIte, decide_true, decide_false, eq_self, Nat.mul_one, Nat.zero_mul, Nat.one_mul, Int.le_refl, Nat.le_refl, Int.cast_ofNat_Int, hno, Bool.false_and]
              · by_cases hlt : (k : Int) < B.length
                · obtain ⟨x, hx⟩ := get_lt hlt
                  obtain ⟨v, hv⟩ := get_lt (l := ix) (k := k) (by omega)
                  obtain ⟨u, hu⟩ := get_lt (l := co) (k := k) (by omega)
                  have lv : (k : Int) < ix.length := by omega
                  have lu : (k : Int) < co.length := by omega
                  have dx := flat_at Blank.cs (n := 5) (fun _ => rfl) hx
                  have dv := ints_at hv
                  have du := ints_at hu
                  rw [Nat.mul_one] at dv du
                  have hc1 : IntKind.i64.wrap (k + 1) = ((k + 1 : Nat) : Int) := by rw [wrap_in (by omega) (by omega)]; omega
                  have hsu := tOkB_succ B ix co k
                  rw [nth_eq hv, nth_eq hu, blankAt_eq hx] at hsu
                  cases h4 : inB v x.i.lo x.i.hi <;> cases h5 : inB u x.c.lo x.c.hi <;> rw [hok, h4, h5] at hsu
                  all_goals simp (decide := true) (maxSteps := 4000000) only [go_sem, Nat.reduceAdd, Nat.reduceSub, Nat.reduceMul, Nat.reduceDiv, Nat.reduceMod, Nat.reduceLT, Nat.reduceLeDiff, Nat.reduceEqDiff, Nat.reduceBEq, Nat.reduceBNe, Nat.reduceGT, Int.reduceAdd, Int.reduceSub, Int.reduceMul, Int.reduceNeg, Int.reduceLT, Int.reduceLE, Int.reduceEq, Int.reduceNe, Int.reduceBEq, Int.reduceBNe, Int.reduceToNat, Int.reduceGT, Int.reduceGE, ↓reduceIte, decide_true, decide_false, eq_self, Nat.mul_one, Nat.zero_mul, Nat.one_mul, Int.le_refl, Nat.le_refl, Int.cast_ofNat_Int, hlt, lv, lu, dx, Blank.cs, dv, du, hok, h4, h5, Int.toNat_natCast]
                  all_goals refine hI1 _ ⟨k + 1, by omega⟩ (by simp only; omega) ?_
                  all_goals simp (decide := true) (maxSteps := 4000000) only [go_sem, Nat.reduceAdd, Nat.reduceSub, Nat.reduceMul, Nat.reduceDiv, Nat.reduceMod, Nat.reduceLT, Nat.reduceLeDiff, Nat.reduceEqDiff, Nat.reduceBEq, Nat.reduceBNe, Nat.reduceGT, Int.reduceAdd, Int.reduceSub, Int.reduceMul, Int.reduceNeg, Int.reduceLT, Int.reduceLE, Int.reduceEq, Int.reduceNe, Int.reduceBEq, Int.reduceBNe, Int.reduceToNat, Int.reduceGT, Int.reduceGE, ↓reduceIte, decide_true, decide_false, eq_self, Nat.mul_one, Nat.zero_mul, Nat.one_mul, Int.le_refl, Nat.le_refl, Int.cast_ofNat_Int, hc1, hsu, Bool.and_true, Bool.and_false, Bool.and_self, Bool.false_and]
                · have hke : k = B.length := by omega
                  subst hke
                  simp (decide := true) (maxSteps := 4000000) only [go_sem, Nat.reduceAdd, Nat.reduceSub, Nat.reduceMul, Nat.reduceDiv, Nat.reduceMod, Nat.reduceLT, Nat.reduceLeDiff, Nat.reduceEqDiff, Nat.reduceBEq, Nat.reduceBNe, Nat.reduceGT, Int.reduceAdd, Int.reduceSub, Int.reduceMul, Int.reduceNeg, Int.reduceLT, Int.reduceLE, Int.reduceEq, Int.reduceNe, Int.reduceBEq, Int.reduceBNe, Int.reduceToNat, Int.reduceGT, Int.reduceGE, ↓reduceIte, decide_true, decide_false, eq_self, Nat.mul_one, Nat.zero_mul, Nat.one_mul, Int.le_refl, Nat.le_refl, Int.cast_ofNat_Int, hlt, hok]
                  refine hQ1 _ _ ?_
                  simp (decide := true) (maxSteps := 4000000) only [go_sem, Nat.reduceAdd, Nat.reduceSub, Nat.reduceMul, Nat.reduceDiv, Nat.reduceMod, Nat.reduceLT, Nat.reduceLeDiff, Nat.reduceEqDiff, Nat.reduceBEq, Nat.reduceBNe, Nat.reduceGT, Int.reduceAdd, Int.reduceSub, Int.reduceMul, Int.reduceNeg, Int.reduceLT, Int.reduceLE, Int.reduceEq, Int.reduceNe, Int.reduceBEq, Int.reduceBNe, Int.reduceToNat, Int.reduceGT, Int.reduceGE, ↓reduceIte, decide_true, decide_false, eq_self, Nat.mul_one, Nat.zero_mul, Nat.one_mul, Int.le_refl, Nat.le_refl, Int.cast_ofNat_Int]
                  refine pwpC_loopU (A := { k : Nat // k ≤ T.length }) [3, 4, 5] (fun k => [(12, .t (.int .i64 k.1)), (10, .t (.bool (tOkT T cu k.1)))]) (fun _ => []) (fun k => T.length - k.1) ⟨0, by omega⟩ (by decide) (fun _ => by rfl) ?_ fun Q2 hQ2 ⟨m, hm⟩ I2 hI2 => ?_
                  · simp (decide := true) (maxSteps := 4000000) only [go_sem, Nat.reduceAdd, Nat.reduceSub, Nat.reduceMul, Nat.reduceDiv, Nat.reduceMod, Nat.reduceLT, Nat.reduceLeDiff, Nat.reduceEqDiff, Nat.reduceBEq, Nat.reduceBNe, Nat.reduceGT, Int.reduceAdd, Int.reduceSub, Int.reduceMul, Int.reduceNeg, Int.reduceLT, Int.reduceLE, Int.reduceEq, Int.reduceNe, Int.reduceBEq, Int.reduceBNe, Int.reduceToNat, Int.reduceGT, Int.reduceGE, ↓reduceIte, decide_true, decide_false, eq_self, Nat.mul_one, Nat.zero_mul, Nat.one_mul, Int.le_refl, Nat.le_refl, Int.cast_ofNat_Int, hok, tOkT, List.range_zero, List.all_nil]
                    first | done | rfl
                  · rcases (Bool.eq_false_or_eq_true (tOkT T cu m)).symm with hok2 | hok2
                    · have hno := tOkT_no hok2 hm
                      simp (decide := true) (maxSteps := 4000000) only [go_sem, Nat.reduceAdd, Nat.reduceSub, Nat.reduceMul, Nat.reduceDiv, Nat.reduceMod, Nat.reduceLT, Nat.reduceLeDiff, Nat.reduceEqDiff, Nat.reduceBEq, Nat.reduceBNe, Nat.reduceGT, Int.reduceAdd, Int.reduceSub, Int.reduceMul, Int.reduceNeg, Int.reduceLT, Int.reduceLE, Int.reduceEq, Int.reduceNe, Int.reduceBEq, Int.reduceBNe, Int.reduceToNat, Int.reduceGT, Int.reduceGE, ↓reduceIte, decide_true, decide_false, eq_self, Nat.mul_one, Nat.zero_mul, Nat.one_mul, Int.le_refl, Nat.le_refl, Int.cast_ofNat_Int, hok2]
                      refine hQ2 _ _ ?_
                      simp (decide := true) (maxSteps := 4000000) only [go_sem, Nat.reduceAdd, Nat.reduceSub, Nat.reduceMul, Nat.reduceDiv, Nat.reduceMod, Nat.reduceLT, Nat.reduceLeDiff, Nat.reduceEqDiff, Nat.reduceBEq, Nat.reduceBNe, Nat.reduceGT, Int.reduceAdd, Int.reduceSub, Int.reduceMul, Int.reduceNeg, Int.reduceLT, Int.reduceLE, Int.reduceEq, Int.reduceNe, Int.reduceBEq, Int.reduceBNe, Int.reduceToNat, Int.reduceGT, Int.reduceGE, ↓reduceIte, decide_true, decide_false, eq_self, Nat.mul_one, Nat.zero_mul, Nat.one_mul, Int.le_refl, Nat.le_refl, Int.cast_ofNat_Int, hno, hok2, Bool.and_false]
                    · by_cases hlt2 : (m : Int) < T.length
                      · obtain ⟨y, hy⟩ := get_lt hlt2
                        obtain ⟨v, hv⟩ := get_lt (l := cu) (k := m) (by omega)
                        have lv : (m : Int) < cu.length := by omega
                        have dy := flat_at Span.cs (n := 2) (fun _ => rfl) hy
                        have dv := ints_at hv
                        rw [Nat.mul_one] at dv
                        have hc1 : IntKind.i64.wrap (m + 1) = ((m + 1 : Nat) : Int) := by rw [wrap_in (by omega) (by omega)]; omega
                        have hsu := tOkT_succ T cu m
                        rw [nth_eq hv, toolAt_eq hy, hok2, Bool.true_and] at hsu
                        simp (decide := true) (maxSteps := 4000000) only [go_sem, Nat.reduceAdd, Nat.reduceSub, Nat.reduceMul, Nat.reduceDiv, Nat.reduceMod, Nat.reduceLT, Nat.reduceLeDiff, Nat.reduceEqDiff, Nat.reduceBEq, Nat.reduceBNe, Nat.reduceGT, Int.reduceAdd, Int.reduceSub, Int.reduceMul, Int.reduceNeg, Int.reduceLT, Int.reduceLE, Int.reduceEq, Int.reduceNe, Int.reduceBEq, Int.reduceBNe, Int.reduceToNat, Int.reduceGT, Int.reduceGE, ↓reduceIte, decide_true, decide_false, eq_self, Nat.mul_one, Nat.zero_mul, Nat.one_mul, Int.le_refl, Nat.le_refl, Int.cast_ofNat_Int, hlt2, lv, dy, Span.cs, dv, hok2, Int.toNat_natCast]
                        refine hI2 _ ⟨m + 1, by omega⟩ (by simp only; omega) ?_
                        simp (decide := true) (maxSteps := 4000000) only [go_sem, Nat.reduceAdd, Nat.reduceSub, Nat.reduceMul, Nat.reduceDiv, Nat.reduceMod, Nat.reduceLT, Nat.reduceLeDiff, Nat.reduceEqDiff, Nat.reduceBEq, Nat.reduceBNe, Nat.reduceGT, Int.reduceAdd, Int.reduceSub, Int.reduceMul, Int.reduceNeg, Int.reduceLT, Int.reduceLE, Int.reduceEq, Int.reduceNe, Int.reduceBEq, Int.reduceBNe, Int.reduceToNat, Int.reduceGT, Int.reduceGE, ↓reduceIte, decide_true, decide_false, eq_self, Nat.mul_one, Nat.zero_mul, Nat.one_mul, Int.le_refl, Nat.le_refl, Int.cast_ofNat_Int, hc1, hsu]
                      · have hme : m = T.length := by omega
                        subst hme
                        have hk2 : (tOkB B ix co B.length && tOkT T cu T.length) = true := by rw [hok, hok2]; rfl
                        have q : (0 ≤ o.f ∧ o.f < ix.length) ∧ (0 ≤ o.s ∧ o.s < ix.length) ∧ co.length = ix.length ∧ (0 ≤ o.a ∧ o.a < cu.length) ∧ (0 ≤ o.b ∧ o.b < cu.length) ∧ 0 ≤ o.c ∧ o.c < cu.length := by omega
                        have fB_ : ∀ t : Int, 0 ≤ t → t < B.length → (1 ≤ nth ix t ∧ nth ix t ≤ 100000) ∧ 1 ≤ nth co t ∧ nth co t ≤ 5000 := by
                          intro t g0 g1
                          obtain ⟨j, rfl⟩ := Int.eq_ofNat_of_zero_le g0
                          have r := tOkB_at hok (i := j) (by omega)
                          have z := blank_ok hs g0 g1
                          omega
                        have fT_ : ∀ t : Int, 0 ≤ t → t < T.length → -1000 ≤ nth cu t ∧ nth cu t ≤ 1000 := by
                          intro t g0 g1
                          obtain ⟨j, rfl⟩ := Int.eq_ofNat_of_zero_le g0
                          have r := tOkT_at hok2 (i := j) (by omega)
                          have z := tool_ok hs g0 g1
                          omega
                        have g1 := fB_ o.f (by omega) (by omega)
                        have g2 := fB_ o.s (by omega) (by omega)
                        have g3 := fT_ o.a (by omega) (by omega)
                        have g4 := fT_ o.b (by omega) (by omega)
                        have g5 := fT_ o.c (by omega) (by omega)
                        have q1 : pwW (nth ix o.f) (nth ix o.s) (nth cu o.a) (nth cu o.b) (nth cu o.c) = pw (nth ix o.f) (nth ix o.s) (nth cu o.a) (nth cu o.b) (nth cu o.c) := (pw_wrap (by omega) (by omega) (by omega) (by omega) (by omega)).1
                        have q2 : pwW (nth co o.f) (nth co o.s) (nth cu o.a) (nth cu o.b) (nth cu o.c) = pw (nth co o.f) (nth co o.s) (nth cu o.a) (nth cu o.b) (nth cu o.c) := (pw_wrap (by omega) (by omega) (by omega) (by omega) (by omega)).1
                        simp (decide := true) (maxSteps := 4000000) only [go_sem, Nat.reduceAdd, Nat.reduceSub, Nat.reduceMul, Nat.reduceDiv, Nat.reduceMod, Nat.reduceLT, Nat.reduceLeDiff, Nat.reduceEqDiff, Nat.reduceBEq, Nat.reduceBNe, Nat.reduceGT, Int.reduceAdd, Int.reduceSub, Int.reduceMul, Int.reduceNeg, Int.reduceLT, Int.reduceLE, Int.reduceEq, Int.reduceNe, Int.reduceBEq, Int.reduceBNe, Int.reduceToNat, Int.reduceGT, Int.reduceGE, ↓reduceIte, decide_true, decide_false, eq_self, Nat.mul_one, Nat.zero_mul, Nat.one_mul, Int.le_refl, Nat.le_refl, Int.cast_ofNat_Int, hlt2, hok2]
                        refine hQ2 _ _ ?_
                        simp (decide := true) (maxSteps := 4000000) only [go_sem, Nat.reduceAdd, Nat.reduceSub, Nat.reduceMul, Nat.reduceDiv, Nat.reduceMod, Nat.reduceLT, Nat.reduceLeDiff, Nat.reduceEqDiff, Nat.reduceBEq, Nat.reduceBNe, Nat.reduceGT, Int.reduceAdd, Int.reduceSub, Int.reduceMul, Int.reduceNeg, Int.reduceLT, Int.reduceLE, Int.reduceEq, Int.reduceNe, Int.reduceBEq, Int.reduceBNe, Int.reduceToNat, Int.reduceGT, Int.reduceGE, ↓reduceIte, decide_true, decide_false, eq_self, Nat.mul_one, Nat.zero_mul, Nat.one_mul, Int.le_refl, Nat.le_refl, Int.cast_ofNat_Int, hk2, hok, hok2, unI_eq, q, q1, q2]
          · have h3 : ((cu.length : Int) == (T.length : Int)) = false := beq_int_f (by omega)
            have hto : truthOk B T ix co cu = false := by unfold truthOk; simp [hl3]
            rcases hK with ⟨rfl, rfl⟩ | ⟨fK, rfl⟩
            all_goals
              simp (decide := true) (maxSteps := 4000000) only [go_sem, Nat.reduceAdd, Nat.reduceSub, Nat.reduceMul, Nat.reduceDiv, Nat.reduceMod, Nat.reduceLT, Nat.reduceLeDiff, Nat.reduceEqDiff, Nat.reduceBEq, Nat.reduceBNe, Nat.reduceGT, Int.reduceAdd, Int.reduceSub, Int.reduceMul, Int.reduceNeg, Int.reduceLT, Int.reduceLE, Int.reduceEq, Int.reduceNe, Int.reduceBEq, Int.reduceBNe, Int.reduceToNat, Int.reduceGT, Int.reduceGE, ↓reduceIte, decide_true, decide_false, eq_self, Nat.mul_one, Nat.zero_mul, Nat.one_mul, Int.le_refl, Nat.le_refl, Int.cast_ofNat_Int, Try.f17, Ob.t, Ob.cs, hlB, hlT, askedG, want0, hs, ho, h1, h2, h3, z0, z1, hto]
              refine pwpC_loopU (A := Unit) [3, 4, 5] (fun _ => [(11, .t (.int .i64 0)), (10, .t (.bool false))]) (fun _ => []) (fun _ => 0) () (by decide) (fun _ => by rfl) ?_ fun Q1 hQ1 _ I1 hI1 => ?_
              · simp (decide := true) (maxSteps := 4000000) only [go_sem, Nat.reduceAdd, Nat.reduceSub, Nat.reduceMul, Nat.reduceDiv, Nat.reduceMod, Nat.reduceLT, Nat.reduceLeDiff, Nat.reduceEqDiff, Nat.reduceBEq, Nat.reduceBNe, Nat.reduceGT, Int.reduceAdd, Int.reduceSub, Int.reduceMul, Int.reduceNeg, Int.reduceLT, Int.reduceLE, Int.reduceEq, Int.reduceNe, Int.reduceBEq, Int.reduceBNe, Int.reduceToNat, Int.reduceGT, Int.reduceGE, ↓reduceIte, decide_true, decide_false, eq_self, Nat.mul_one, Nat.zero_mul, Nat.one_mul, Int.le_refl, Nat.le_refl, Int.cast_ofNat_Int]
              · simp (decide := true) (maxSteps := 4000000) only [go_sem, Nat.reduceAdd, Nat.reduceSub, Nat.reduceMul, Nat.reduceDiv, Nat.reduceMod, Nat.reduceLT, Nat.reduceLeDiff, Nat.reduceEqDiff, Nat.reduceBEq, Nat.reduceBNe, Nat.reduceGT, Int.reduceAdd, Int.reduceSub, Int.reduceMul, Int.reduceNeg, Int.reduceLT, Int.reduceLE, Int.reduceEq, Int.reduceNe, Int.reduceBEq, Int.reduceBNe, Int.reduceToNat, Int.reduceGT, Int.reduceGE, ↓reduceIte, decide_true, decide_false, eq_self, Nat.mul_one, Nat.zero_mul, Nat.one_mul, Int.le_refl, Nat.le_refl, Int.cast_ofNat_Int]
                refine hQ1 _ _ ?_
                simp (decide := true) (maxSteps := 4000000) only [go_sem, Nat.reduceAdd, Nat.reduceSub, Nat.reduceMul, Nat.reduceDiv, Nat.reduceMod, Nat.reduceLT, Nat.reduceLeDiff, Nat.reduceEqDiff, Nat.reduceBEq, Nat.reduceBNe, Nat.reduceGT, Int.reduceAdd, Int.reduceSub, Int.reduceMul, Int.reduceNeg, Int.reduceLT, Int.reduceLE, Int.reduceEq, Int.reduceNe, Int.reduceBEq, Int.reduceBNe, Int.reduceToNat, Int.reduceGT, Int.reduceGE, ↓reduceIte, decide_true, decide_false, eq_self, Nat.mul_one, Nat.zero_mul, Nat.one_mul, Int.le_refl, Nat.le_refl, Int.cast_ofNat_Int]
                refine pwpC_loopU (A := Unit) [3, 4, 5] (fun _ => [(12, .t (.int .i64 0)), (10, .t (.bool false))]) (fun _ => []) (fun _ => 0) () (by decide) (fun _ => by rfl) ?_ fun Q2 hQ2 _ I2 hI2 => ?_
                · simp (decide := true) (maxSteps := 4000000) only [go_sem, Nat.reduceAdd, Nat.reduceSub, Nat.reduceMul, Nat.reduceDiv, Nat.reduceMod, Nat.reduceLT, Nat.reduceLeDiff, Nat.reduceEqDiff, Nat.reduceBEq, Nat.reduceBNe, Nat.reduceGT, Int.reduceAdd, Int.reduceSub, Int.reduceMul, Int.reduceNeg, Int.reduceLT, Int.reduceLE, Int.reduceEq, Int.reduceNe, Int.reduceBEq, Int.reduceBNe, Int.reduceToNat, Int.reduceGT, Int.reduceGE, ↓reduceIte, decide_true, decide_false, eq_self, Nat.mul_one, Nat.zero_mul, Nat.one_mul, Int.le_refl, Nat.le_refl, Int.cast_ofNat_Int]
                · simp (decide := true) (maxSteps := 4000000) only [go_sem, Nat.reduceAdd, Nat.reduceSub, Nat.reduceMul, Nat.reduceDiv, Nat.reduceMod, Nat.reduceLT, Nat.reduceLeDiff, Nat.reduceEqDiff, Nat.reduceBEq, Nat.reduceBNe, Nat.reduceGT, Int.reduceAdd, Int.reduceSub, Int.reduceMul, Int.reduceNeg, Int.reduceLT, Int.reduceLE, Int.reduceEq, Int.reduceNe, Int.reduceBEq, Int.reduceBNe, Int.reduceToNat, Int.reduceGT, Int.reduceGE, ↓reduceIte, decide_true, decide_false, eq_self, Nat.mul_one, Nat.zero_mul, Nat.one_mul, Int.le_refl, Nat.le_refl, Int.cast_ofNat_Int]
                  refine hQ2 _ _ ?_
                  simp (decide := true) (maxSteps := 4000000) only [go_sem, Nat.reduceAdd, Nat.reduceSub, Nat.reduceMul, Nat.reduceDiv, Nat.reduceMod, Nat.reduceLT, Nat.reduceLeDiff, Nat.reduceEqDiff, Nat.reduceBEq, Nat.reduceBNe, Nat.reduceGT, Int.reduceAdd, Int.reduceSub, Int.reduceMul, Int.reduceNeg, Int.reduceLT, Int.reduceLE, Int.reduceEq, Int.reduceNe, Int.reduceBEq, Int.reduceBNe, Int.reduceToNat, Int.reduceGT, Int.reduceGE, ↓reduceIte, decide_true, decide_false, eq_self, Nat.mul_one, Nat.zero_mul, Nat.one_mul, Int.le_refl, Nat.le_refl, Int.cast_ofNat_Int, hto]
        · have h2 : ((co.length : Int) == (B.length : Int)) = false := beq_int_f (by omega)
          have hto : truthOk B T ix co cu = false := by unfold truthOk; simp [hl2]
          rcases hC with ⟨rfl, rfl⟩ | ⟨fC, rfl⟩ <;> rcases hK with ⟨rfl, rfl⟩ | ⟨fK, rfl⟩
          all_goals
            simp (decide := true) (maxSteps := 4000000) only [go_sem, Nat.reduceAdd, Nat.reduceSub, Nat.reduceMul, Nat.reduceDiv, Nat.reduceMod, Nat.reduceLT, Nat.reduceLeDiff, Nat.reduceEqDiff, Nat.reduceBEq, Nat.reduceBNe, Nat.reduceGT, Int.reduceAdd, Int.reduceSub, Int.reduceMul, Int.reduceNeg, Int.reduceLT, Int.reduceLE, Int.reduceEq, Int.reduceNe, Int.reduceBEq, Int.reduceBNe, Int.reduceToNat, Int.reduceGT, Int.reduceGE, ↓reduceIte, decide_true, decide_false, eq_self, Nat.mul_one, Nat.zero_mul, Nat.one_mul, Int.le_refl, Nat.le_refl, Int.cast_ofNat_Int, Try.f17, Ob.t, Ob.cs, hlB, hlT, askedG, want0, hs, ho, h1, h2, z0, z1, hto]
            refine pwpC_loopU (A := Unit) [3, 4, 5] (fun _ => [(11, .t (.int .i64 0)), (10, .t (.bool false))]) (fun _ => []) (fun _ => 0) () (by decide) (fun _ => by rfl) ?_ fun Q1 hQ1 _ I1 hI1 => ?_
            · simp (decide := true) (maxSteps := 4000000) only [go_sem, Nat.reduceAdd, Nat.reduceSub, Nat.reduceMul, Nat.reduceDiv, Nat.reduceMod, Nat.reduceLT, Nat.reduceLeDiff, Nat.reduceEqDiff, Nat.reduceBEq, Nat.reduceBNe, Nat.reduceGT, Int.reduceAdd, Int.reduceSub, Int.reduceMul, Int.reduceNeg, Int.reduceLT, Int.reduceLE, Int.reduceEq, Int.reduceNe, Int.reduceBEq, Int.reduceBNe, Int.reduceToNat, Int.reduceGT, Int.reduceGE, ↓reduceIte, decide_true, decide_false, eq_self, Nat.mul_one, Nat.zero_mul, Nat.one_mul, Int.le_refl, Nat.le_refl, Int.cast_ofNat_Int]
            · simp (decide := true) (maxSteps := 4000000) only [go_sem, Nat.reduceAdd, Nat.reduceSub, Nat.reduceMul, Nat.reduceDiv, Nat.reduceMod, Nat.reduceLT, Nat.reduceLeDiff, Nat.reduceEqDiff, Nat.reduceBEq, Nat.reduceBNe, Nat.reduceGT, Int.reduceAdd, Int.reduceSub, Int.reduceMul, Int.reduceNeg, Int.reduceLT, Int.reduceLE, Int.reduceEq, Int.reduceNe, Int.reduceBEq, Int.reduceBNe, Int.reduceToNat, Int.reduceGT, Int.reduceGE, ↓reduceIte, decide_true, decide_false, eq_self, Nat.mul_one, Nat.zero_mul, Nat.one_mul, Int.le_refl, Nat.le_refl, Int.cast_ofNat_Int]
              refine hQ1 _ _ ?_
              simp (decide := true) (maxSteps := 4000000) only [go_sem, Nat.reduceAdd, Nat.reduceSub, Nat.reduceMul, Nat.reduceDiv, Nat.reduceMod, Nat.reduceLT, Nat.reduceLeDiff, Nat.reduceEqDiff, Nat.reduceBEq, Nat.reduceBNe, Nat.reduceGT, Int.reduceAdd, Int.reduceSub, Int.reduceMul, Int.reduceNeg, Int.reduceLT, Int.reduceLE, Int.reduceEq, Int.reduceNe, Int.reduceBEq, Int.reduceBNe, Int.reduceToNat, Int.reduceGT, Int.reduceGE, ↓reduceIte, decide_true, decide_false, eq_self, Nat.mul_one, Nat.zero_mul, Nat.one_mul, Int.le_refl, Nat.le_refl, Int.cast_ofNat_Int]
              refine pwpC_loopU (A := Unit) [3, 4, 5] (fun _ => [(12, .t (.int .i64 0)), (10, .t (.bool false))]) (fun _ => []) (fun _ => 0) () (by decide) (fun _ => by rfl) ?_ fun Q2 hQ2 _ I2 hI2 => ?_
              · simp (decide := true) (maxSteps := 4000000) only [go_sem, Nat.reduceAdd, Nat.reduceSub, Nat.reduceMul, Nat.reduceDiv, Nat.reduceMod, Nat.reduceLT, Nat.reduceLeDiff, Nat.reduceEqDiff, Nat.reduceBEq, Nat.reduceBNe, Nat.reduceGT, Int.reduceAdd, Int.reduceSub, Int.reduceMul, Int.reduceNeg, Int.reduceLT, Int.reduceLE, Int.reduceEq, Int.reduceNe, Int.reduceBEq, Int.reduceBNe, Int.reduceToNat, Int.reduceGT, Int.reduceGE, ↓reduceIte, decide_true, decide_false, eq_self, Nat.mul_one, Nat.zero_mul, Nat.one_mul, Int.le_refl, Nat.le_refl, Int.cast_ofNat_Int]
              · simp (decide := true) (maxSteps := 4000000) only [go_sem, Nat.reduceAdd, Nat.reduceSub, Nat.reduceMul, Nat.reduceDiv, Nat.reduceMod, Nat.reduceLT, Nat.reduceLeDiff, Nat.reduceEqDiff, Nat.reduceBEq, Nat.reduceBNe, Nat.reduceGT, Int.reduceAdd, Int.reduceSub, Int.reduceMul, Int.reduceNeg, Int.reduceLT, Int.reduceLE, Int.reduceEq, Int.reduceNe, Int.reduceBEq, Int.reduceBNe, Int.reduceToNat, Int.reduceGT, Int.reduceGE, ↓reduceIte, decide_true, decide_false, eq_self, Nat.mul_one, Nat.zero_mul, Nat.one_mul, Int.le_refl, Nat.le_refl, Int.cast_ofNat_Int]
                refine hQ2 _ _ ?_
                simp (decide := true) (maxSteps := 4000000) only [go_sem, Nat.reduceAdd, Nat.reduceSub, Nat.reduceMul, Nat.reduceDiv, Nat.reduceMod, Nat.reduceLT, Nat.reduceLeDiff, Nat.reduceEqDiff, Nat.reduceBEq, Nat.reduceBNe, Nat.reduceGT, Int.reduceAdd, Int.reduceSub, Int.reduceMul, Int.reduceNeg, Int.reduceLT, Int.reduceLE, Int.reduceEq, Int.reduceNe, Int.reduceBEq, Int.reduceBNe, Int.reduceToNat, Int.reduceGT, Int.reduceGE, ↓reduceIte, decide_true, decide_false, eq_self, Nat.mul_one, Nat.zero_mul, Nat.one_mul, Int.le_refl, Nat.le_refl, Int.cast_ofNat_Int, hto]
      · have h1 : ((ix.length : Int) == (B.length : Int)) = false := beq_int_f (by omega)
        have hto : truthOk B T ix co cu = false := by unfold truthOk; simp [hl1]
        rcases hI with ⟨rfl, rfl⟩ | ⟨fI, rfl⟩ <;> rcases hC with ⟨rfl, rfl⟩ | ⟨fC, rfl⟩ <;> rcases hK with ⟨rfl, rfl⟩ | ⟨fK, rfl⟩
        all_goals
          simp (decide := true) (maxSteps := 4000000) only [go_sem, Nat.reduceAdd, Nat.reduceSub, Nat.reduceMul, Nat.reduceDiv, Nat.reduceMod, Nat.reduceLT, Nat.reduceLeDiff, Nat.reduceEqDiff, Nat.reduceBEq, Nat.reduceBNe, Nat.reduceGT, Int.reduceAdd, Int.reduceSub, Int.reduceMul, Int.reduceNeg, Int.reduceLT, Int.reduceLE, Int.reduceEq, Int.reduceNe, Int.reduceBEq, Int.reduceBNe, Int.reduceToNat, Int.reduceGT, Int.reduceGE, ↓reduceIte, decide_true, decide_false, eq_self, Nat.mul_one, Nat.zero_mul, Nat.one_mul, Int.le_refl, Nat.le_refl, Int.cast_ofNat_Int, Try.f17, Ob.t, Ob.cs, hlB, hlT, askedG, want0, hs, ho, h1, z0, z1, hto]
          refine pwpC_loopU (A := Unit) [3, 4, 5] (fun _ => [(11, .t (.int .i64 0)), (10, .t (.bool false))]) (fun _ => []) (fun _ => 0) () (by decide) (fun _ => by rfl) ?_ fun Q1 hQ1 _ I1 hI1 => ?_
          · simp (decide := true) (maxSteps := 4000000) only [go_sem, Nat.reduceAdd, Nat.reduceSub, Nat.reduceMul, Nat.reduceDiv, Nat.reduceMod, Nat.reduceLT, Nat.reduceLeDiff, Nat.reduceEqDiff, Nat.reduceBEq, Nat.reduceBNe, Nat.reduceGT, Int.reduceAdd, Int.reduceSub, Int.reduceMul, Int.reduceNeg, Int.reduceLT, Int.reduceLE, Int.reduceEq, Int.reduceNe, Int.reduceBEq, Int.reduceBNe, Int.reduceToNat, Int.reduceGT, Int.reduceGE, ↓reduceIte, decide_true, decide_false, eq_self, Nat.mul_one, Nat.zero_mul, Nat.one_mul, Int.le_refl, Nat.le_refl, Int.cast_ofNat_Int]
          · simp (decide := true) (maxSteps := 4000000) only [go_sem, Nat.reduceAdd, Nat.reduceSub, Nat.reduceMul, Nat.reduceDiv, Nat.reduceMod, Nat.reduceLT, Nat.reduceLeDiff, Nat.reduceEqDiff, Nat.reduceBEq, Nat.reduceBNe, Nat.reduceGT, Int.reduceAdd, Int.reduceSub, Int.reduceMul, Int.reduceNeg, Int.reduceLT, Int.reduceLE, Int.reduceEq, Int.reduceNe, Int.reduceBEq, Int.reduceBNe, Int.reduceToNat, Int.reduceGT, Int.reduceGE, ↓reduceIte, decide_true, decide_false, eq_self, Nat.mul_one, Nat.zero_mul, Nat.one_mul, Int.le_refl, Nat.le_refl, Int.cast_ofNat_Int]
            refine hQ1 _ _ ?_
            simp (decide := true) (maxSteps := 4000000) only [go_sem, Nat.reduceAdd, Nat.reduceSub, Nat.reduceMul, Nat.reduceDiv, Nat.reduceMod, Nat.reduceLT, Nat.reduceLeDiff, Nat.reduceEqDiff, Nat.reduceBEq, Nat.reduceBNe, Nat.reduceGT, Int.reduceAdd, Int.reduceSub, Int.reduceMul, Int.reduceNeg, Int.reduceLT, Int.reduceLE, Int.reduceEq, Int.reduceNe, Int.reduceBEq, Int.reduceBNe, Int.reduceToNat, Int.reduceGT, Int.reduceGE, ↓reduceIte, decide_true, decide_false, eq_self, Nat.mul_one, Nat.zero_mul, Nat.one_mul, Int.le_refl, Nat.le_refl, Int.cast_ofNat_Int]
            refine pwpC_loopU (A := Unit) [3, 4, 5] (fun _ => [(12, .t (.int .i64 0)), (10, .t (.bool false))]) (fun _ => []) (fun _ => 0) () (by decide) (fun _ => by rfl) ?_ fun Q2 hQ2 _ I2 hI2 => ?_
            · simp (decide := true) (maxSteps := 4000000) only [go_sem, Nat.reduceAdd, Nat.reduceSub, Nat.reduceMul, Nat.reduceDiv, Nat.reduceMod, Nat.reduceLT, Nat.reduceLeDiff, Nat.reduceEqDiff, Nat.reduceBEq, Nat.reduceBNe, Nat.reduceGT, Int.reduceAdd, Int.reduceSub, Int.reduceMul, Int.reduceNeg, Int.reduceLT, Int.reduceLE, Int.reduceEq, Int.reduceNe, Int.reduceBEq, Int.reduceBNe, Int.reduceToNat, Int.reduceGT, Int.reduceGE, ↓reduceIte, decide_true, decide_false, eq_self, Nat.mul_one, Nat.zero_mul, Nat.one_mul, Int.le_refl, Nat.le_refl, Int.cast_ofNat_Int]
            · simp (decide := true) (maxSteps := 4000000) only [go_sem, Nat.reduceAdd, Nat.reduceSub, Nat.reduceMul, Nat.reduceDiv, Nat.reduceMod, Nat.reduceLT, Nat.reduceLeDiff, Nat.reduceEqDiff, Nat.reduceBEq, Nat.reduceBNe, Nat.reduceGT, Int.reduceAdd, Int.reduceSub, Int.reduceMul, Int.reduceNeg, Int.reduceLT, Int.reduceLE, Int.reduceEq, Int.reduceNe, Int.reduceBEq, Int.reduceBNe, Int.reduceToNat, Int.reduceGT, Int.reduceGE, ↓reduceIte, decide_true, decide_false, eq_self, Nat.mul_one, Nat.zero_mul, Nat.one_mul, Int.le_refl, Nat.le_refl, Int.cast_ofNat_Int]
              refine hQ2 _ _ ?_
              simp (decide := true) (maxSteps := 4000000) only [go_sem, Nat.reduceAdd, Nat.reduceSub, Nat.reduceMul, Nat.reduceDiv, Nat.reduceMod, Nat.reduceLT, Nat.reduceLeDiff, Nat.reduceEqDiff, Nat.reduceBEq, Nat.reduceBNe, Nat.reduceGT, Int.reduceAdd, Int.reduceSub, Int.reduceMul, Int.reduceNeg, Int.reduceLT, Int.reduceLE, Int.reduceEq, Int.reduceNe, Int.reduceBEq, Int.reduceBNe, Int.reduceToNat, Int.reduceGT, Int.reduceGE, ↓reduceIte, decide_true, decide_false, eq_self, Nat.mul_one, Nat.zero_mul, Nat.one_mul, Int.le_refl, Nat.le_refl, Int.cast_ofNat_Int, hto]
end Go.Proofs.Ytcjcnmpecmbdeaa

/- Part Gi. -/
namespace Go.Oc
open Go Go.Pm
theorem rowL_is {α : Type} {un : List TV → Option (List α)} {c : α → List TV} (hu : ∀ l : List α, un (l.flatMap c) = some l) {s : TV} {l : List α} (h : IsRow c s l) : rowL un s = some l := by
  rcases h with ⟨rfl, rfl⟩ | ⟨full, rfl⟩
  · exact hu []
  · simp only [rowL, hu, if_true]
theorem rowB_is {s : TV} {l : List Blank} (h : IsRow Blank.cs s l) : rowL unBlanks s = some l := rowL_is unBlanks_eq h
theorem rowT_is {s : TV} {l : List Span} (h : IsRow Span.cs s l) : rowL unSpans s = some l := rowL_is unSpans_eq h
theorem rowI_is {s : TV} {l : List Int} (h : IsRow ic s l) : rowL unI s = some l := rowL_is (fun l => by rw [ic_ints]; exact unI_eq l) h
theorem rowF_is {s : TV} {l : List Fr} (h : IsRow Fr.cs s l) : rowL unFrs s = some l := rowL_is unFrs_eq h
end Go.Oc
namespace Go.Proofs.Ytcjcnmpecmbdeaa
open Go.RowKit Go.Pm Go.Oc
set_option maxRecDepth 100000
set_option linter.unusedVariables false
set_option maxHeartbeats 4000000

theorem rSpansE_ok : ∀ xs r, glSpansE xs = some r → PCalls Try.prog 21 xs r := by
  intro xs r h
  unfold glSpansE at h
  split at h
  · split at h
    · rename_i B T hB hT
      split at h
      · rename_i hc; cases h
        exact r4SpansE_c (rowL_some (un := unBlanks) rfl (@unBlanks_some) hB) (rowL_some (un := unSpans) rfl (@unSpans_some) hT) hc.1 hc.2 ⟨_, _, _, _, _⟩
      · cases h
    · cases h
  · cases h
theorem rGoodE_ok : ∀ xs r, glGoodE xs = some r → PCalls Try.prog 24 xs r := by
  intro xs r h
  unfold glGoodE at h
  split at h
  · split at h
    · rename_i B T hB hT
      split at h
      · rename_i hc; cases h
        exact r4GoodE_c (rowL_some (un := unBlanks) rfl (@unBlanks_some) hB) (rowL_some (un := unSpans) rfl (@unSpans_some) hT) hc.1 hc.2 ⟨⟨_, _⟩, _⟩ ⟨_, _, _, _, _⟩
      · cases h
    · cases h
  · cases h
theorem rSeen_ok : ∀ xs r, glSeen xs = some r → PCalls Try.prog 17 xs r := by
  intro xs r h
  unfold glSeen at h
  split at h
  · split at h
    · rename_i B T ix co cu hB hT hI hC hK
      split at h
      · rename_i hc; cases h
        exact r4Seen_c (rowL_some (un := unBlanks) rfl (@unBlanks_some) hB) (rowL_some (un := unSpans) rfl (@unSpans_some) hT) hc.1 hc.2 (rowL_some (un := unI) rfl (@unI_some) hI) (rowL_some (un := unI) rfl (@unI_some) hC) (rowL_some (un := unI) rfl (@unI_some) hK) ⟨_, _, _, _, _⟩
      · cases h
    · cases h
  · cases h
noncomputable def goWorks : List TV → Option TV
  | [] => some (.bool true)
  | _ => none
theorem goWorks_ok : ∀ xs r, goWorks xs = some r → PCalls Try.prog 22 xs r := by
  intro xs r h
  unfold goWorks at h
  split at h
  · cases h; exact oWorks_c
  · cases h
attribute [go_sem] goWorks
noncomputable def spI1 : Pm.Spec := ((((spH1.one 22 goWorks).one 19 glCheck).one 21 glSpansE).one 24 glGoodE).one 17 glSeen
@[go_sem] theorem spI1_p (f : FuncId) (xs : List TV) : spI1.p f xs = Pm.Spec.p (((((spH1.one 22 goWorks).one 19 glCheck).one 21 glSpansE).one 24 glGoodE).one 17 glSeen) f xs := rfl
@[go_sem] theorem spI1_h (f : FuncId) (ps : List PV) (hl : List PO) : spI1.h f ps hl = Pm.Spec.h (((((spH1.one 22 goWorks).one 19 glCheck).one 21 glSpansE).one 24 glGoodE).one 17 glSeen) f ps hl := rfl
@[go_sem] theorem spI1_fz (f : FuncId) : spI1.fz f = Pm.Spec.fz (((((spH1.one 22 goWorks).one 19 glCheck).one 21 glSpansE).one 24 glGoodE).one 17 glSeen) f := rfl
@[go_sem] theorem spI1_fr (f : FuncId) : spI1.fr f = Pm.Spec.fr (((((spH1.one 22 goWorks).one 19 glCheck).one 21 glSpansE).one 24 glGoodE).one 17 glSeen) f := rfl
@[go_sem] theorem spI1_mu (t : TypeId) : spI1.mu t = Pm.Spec.mu (((((spH1.one 22 goWorks).one 19 glCheck).one 21 glSpansE).one 24 glGoodE).one 17 glSeen) t := rfl
theorem spI1_ok : SpecOk Try.prog spI1 := Spec.one_ok rSeen_ok (Spec.one_ok rGoodE_ok (Spec.one_ok rSpansE_ok (Spec.one_ok r4Check_ok (Spec.one_ok goWorks_ok spH1_ok))))
theorem GlassSees_c {B : List Blank} {T : List Span} {sB sT sI sC sK : TV} {ix co cu : List Int} (hB : IsRow Blank.cs sB B) (hT : IsRow Span.cs sT T) (hlB : B.length ≤ 5864062014806) (hlT : T.length ≤ 9000000000000) (hI : IsRow ic sI ix) (hC : IsRow ic sC co) (hK : IsRow ic sK cu) (o : Ob) :
    PCalls Try.prog 3 [.agg [sB, sT], o.t, .agg [sI, sC, sK]] (.bool true) := by
  have rB := rowB_is hB
  have rT := rowT_is hT
  have rI := rowI_is hI
  have rC := rowI_is hC
  have rK := rowI_is hK
  unfold rowL at rB rT rI rC rK
  refine pcalls_by Try.mixes spI1_ok (fn := Try.f3) Try.func3 rfl (by kernel_rfl) (by show 3 ≤ _; decide) ?_
  simp (decide := true) (maxSteps := 4000000) only [go_sem, Nat.reduceAdd, Nat.reduceSub, Nat.reduceMul, Nat.reduceDiv, Nat.reduceMod, Nat.reduceLT, Nat.reduceLeDiff, Nat.reduceEqDiff, Nat.reduceBEq, Nat.reduceBNe, Nat.reduceGT, Int.reduceAdd, Int.reduceSub, Int.reduceMul, Int.reduceNeg, Int.reduceLT, Int.reduceLE, Int.reduceEq, Int.reduceNe, Int.reduceBEq, Int.reduceBNe, Int.reduceToNat, Int.reduceGT, Int.reduceGE, ↓reduceIte, decide_true, decide_false, eq_self, Nat.mul_one, Nat.zero_mul, Nat.one_mul, Int.le_refl, Nat.le_refl, Int.cast_ofNat_Int, Try.f3, Ob.t, Ob.cs, rB, rT, rI, rC, rK, hlB, hlT, Span.t, Span.cs, bne_self_eq_false, beq_self_eq_true, Bool.and_self]
end Go.Proofs.Ytcjcnmpecmbdeaa

/- Part Gd. -/
namespace Go.Proofs.Ytcjcnmpecmbdeaa
open Go.RowKit Go.Pm Go.Oc
set_option maxRecDepth 100000
set_option linter.unusedVariables false

theorem slice_cells {k : Nat} {t e : TypeId} {cs : List TV} (hu : Program.underlying Try.prog t = some (.slice e)) (h : cellsOk Try.prog (k + 1) t cs) : ∃ x, cs = [x] ∧ cellsOk Try.prog (k + 1) t [x] := by
  have h' := h
  unfold cellsOk at h'
  rw [hu] at h'
  rcases h' with h' | ⟨rows, full, h', _⟩
  · exact ⟨_, h', by rw [← h']; exact h⟩
  · exact ⟨_, h', by rw [← h']; exact h⟩
theorem int_cells {k : Nat} {cs : List TV} (h : cellsOk Try.prog (k + 1) 3 cs) : ∃ n, cs = [.int .i64 n] ∧ In64 n := cellsOk_i64 (by kernel_rfl) h
theorem span_cells {k : Nat} {cs : List TV} (h : cellsOk Try.prog (k + 2) 37 cs) : ∃ s : Span, cs = s.cs ∧ In64 s.lo ∧ In64 s.hi := by
  have h := cellsOk_tys (ts := [3, 3]) (by kernel_rfl) h
  obtain ⟨_, r, rfl, h1, h⟩ := seqOk_cons h
  obtain ⟨_, r, rfl, h2, h⟩ := seqOk_cons h
  cases seqOk_nil h
  obtain ⟨a, rfl, ha⟩ := int_cells h1
  obtain ⟨b, rfl, hb⟩ := int_cells h2
  exact ⟨⟨a, b⟩, rfl, ha, hb⟩
theorem blank_cells {k : Nat} {cs : List TV} (h : cellsOk Try.prog (k + 3) 87 cs) : ∃ b : Blank, cs = b.cs ∧ In64 b.i.lo ∧ In64 b.i.hi ∧ In64 b.c.lo ∧ In64 b.c.hi ∧ In64 b.pr := by
  have h := cellsOk_tys (ts := [37, 37, 3]) (by kernel_rfl) h
  obtain ⟨_, r, rfl, h1, h⟩ := seqOk_cons h
  obtain ⟨_, r, rfl, h2, h⟩ := seqOk_cons h
  obtain ⟨_, r, rfl, h3, h⟩ := seqOk_cons h
  cases seqOk_nil h
  obtain ⟨a, rfl, a1, a2⟩ := span_cells h1
  obtain ⟨b, rfl, b1, b2⟩ := span_cells h2
  obtain ⟨c, rfl, hc⟩ := int_cells h3
  exact ⟨⟨a, b, c⟩, rfl, a1, a2, b1, b2, hc⟩
theorem fr_cells {k : Nat} {cs : List TV} (h : cellsOk Try.prog (k + 3) 93 cs) : ∃ f : Fr, cs = f.cs ∧ In64 f.p.lo ∧ In64 f.p.hi ∧ In64 f.r.lo ∧ In64 f.r.hi ∧ In64 f.g := by
  have h := cellsOk_tys (ts := [37, 37, 3]) (by kernel_rfl) h
  obtain ⟨_, r, rfl, h1, h⟩ := seqOk_cons h
  obtain ⟨_, r, rfl, h2, h⟩ := seqOk_cons h
  obtain ⟨_, r, rfl, h3, h⟩ := seqOk_cons h
  cases seqOk_nil h
  obtain ⟨a, rfl, a1, a2⟩ := span_cells h1
  obtain ⟨b, rfl, b1, b2⟩ := span_cells h2
  obtain ⟨c, rfl, hc⟩ := int_cells h3
  exact ⟨⟨a, b, c⟩, rfl, a1, a2, b1, b2, hc⟩
theorem ints_cells {x : TV} {k : Nat} (h : cellsOk Try.prog (k + 2) 29 [x]) : ∃ l : List Int, IsRow ic x l ∧ l.length ≤ 17592186044415 ∧ ∀ n ∈ l, In64 n := by
  obtain ⟨l, h1, h2, h3, _⟩ := cellsOk_row (e := 3) (c := ic) (p := fun n => In64 n) (by kernel_rfl) (fun cs hc => int_cells hc) h
  rw [show Program.bytesOf Try.prog 3 = 8 by kernel_rfl] at h3
  unfold reachBytes at h3
  exact ⟨l, h1, by omega, h2⟩
theorem blanks_cells {x : TV} {k : Nat} (h : cellsOk Try.prog (k + 4) 22 [x]) : ∃ l : List Blank, IsRow Blank.cs x l ∧ l.length ≤ 5864062014805 ∧ ∀ b ∈ l, In64 b.i.lo ∧ In64 b.i.hi ∧ In64 b.c.lo ∧ In64 b.c.hi ∧ In64 b.pr := by
  obtain ⟨l, h1, h2, h3, _⟩ := cellsOk_row (e := 87) (c := Blank.cs) (by kernel_rfl) (fun cs hc => blank_cells hc) h
  rw [show Program.bytesOf Try.prog 87 = 40 by kernel_rfl] at h3
  unfold reachBytes at h3
  exact ⟨l, h1, by omega, h2⟩
theorem frs_cells {x : TV} {k : Nat} (h : cellsOk Try.prog (k + 4) 56 [x]) : ∃ l : List Fr, IsRow Fr.cs x l ∧ l.length ≤ 5864062014805 ∧ ∀ f ∈ l, In64 f.p.lo ∧ In64 f.p.hi ∧ In64 f.r.lo ∧ In64 f.r.hi ∧ In64 f.g := by
  obtain ⟨l, h1, h2, h3, _⟩ := cellsOk_row (e := 93) (c := Fr.cs) (by kernel_rfl) (fun cs hc => fr_cells hc) h
  rw [show Program.bytesOf Try.prog 93 = 40 by kernel_rfl] at h3
  unfold reachBytes at h3
  exact ⟨l, h1, by omega, h2⟩
theorem spans_cells {x : TV} {k : Nat} (h : cellsOk Try.prog (k + 3) 23 [x]) : ∃ l : List Span, IsRow Span.cs x l ∧ l.length ≤ 8796093022207 ∧ ∀ b ∈ l, In64 b.lo ∧ In64 b.hi := by
  obtain ⟨l, h1, h2, h3, _⟩ := cellsOk_row (e := 37) (c := Span.cs) (by kernel_rfl) (fun cs hc => span_cells hc) h
  rw [show Program.bytesOf Try.prog 37 = 16 by kernel_rfl] at h3
  unfold reachBytes at h3
  exact ⟨l, h1, by omega, h2⟩
theorem stockArg {x : TV} (h : argOk Try.prog 25 x) : ∃ (B : List Blank) (T : List Span) (sB sT : TV), x = .agg [sB, sT] ∧ IsRow Blank.cs sB B ∧ IsRow Span.cs sT T ∧ B.length ≤ 5864062014805 ∧ T.length ≤ 8796093022207 ∧
    (∀ b ∈ B, In64 b.i.lo ∧ In64 b.i.hi ∧ In64 b.c.lo ∧ In64 b.c.hi ∧ In64 b.pr) ∧ ∀ t ∈ T, In64 t.lo ∧ In64 t.hi := by
  obtain ⟨cs, rfl, h'⟩ := argOk_agg (ts := [22, 23]) (by kernel_rfl) h
  have h := cellsOk_tys (ts := [22, 23]) (by kernel_rfl) h'
  obtain ⟨_, r, rfl, h1, h⟩ := seqOk_cons h
  obtain ⟨_, r, rfl, h2, h⟩ := seqOk_cons h
  cases seqOk_nil h
  obtain ⟨a, rfl, h1⟩ := slice_cells (e := 87) (by kernel_rfl) h1
  obtain ⟨b, rfl, h2⟩ := slice_cells (e := 37) (by kernel_rfl) h2
  obtain ⟨B, hB, lB, iB⟩ := blanks_cells h1
  obtain ⟨T, hT, lT, iT⟩ := spans_cells h2
  exact ⟨B, T, a, b, rfl, hB, hT, lB, lT, iB, iT⟩
theorem obArg {x : TV} (h : argOk Try.prog 28 x) : ∃ o : Ob, x = o.t ∧ In64 o.f ∧ In64 o.s ∧ In64 o.a ∧ In64 o.b ∧ In64 o.c := by
  obtain ⟨cs, rfl, h'⟩ := argOk_agg (ts := [3, 3, 26]) (by kernel_rfl) h
  have h := cellsOk_tys (ts := [3, 3, 26]) (by kernel_rfl) h'
  obtain ⟨_, r, rfl, h1, h⟩ := seqOk_cons h
  obtain ⟨_, r, rfl, h2, h⟩ := seqOk_cons h
  obtain ⟨_, r, rfl, h3, h⟩ := seqOk_cons h
  cases seqOk_nil h
  obtain ⟨a, rfl, ia⟩ := int_cells h1
  obtain ⟨b, rfl, ib⟩ := int_cells h2
  have h := cellsOk_tys (ts := [3, 3, 3]) (by kernel_rfl) h3
  obtain ⟨_, r, rfl, h4, h⟩ := seqOk_cons h
  obtain ⟨_, r, rfl, h5, h⟩ := seqOk_cons h
  obtain ⟨_, r, rfl, h6, h⟩ := seqOk_cons h
  cases seqOk_nil h
  obtain ⟨c, rfl, ic⟩ := int_cells h4
  obtain ⟨d, rfl, id⟩ := int_cells h5
  obtain ⟨e, rfl, ie⟩ := int_cells h6
  exact ⟨⟨a, b, c, d, e⟩, rfl, ia, ib, ic, id, ie⟩
theorem truthArg {x : TV} (h : argOk Try.prog 31 x) : ∃ (ix co cu : List Int) (a b c : TV), x = .agg [a, b, c] ∧ IsRow ic a ix ∧ IsRow ic b co ∧ IsRow ic c cu ∧ ix.length ≤ 17592186044415 ∧ co.length ≤ 17592186044415 ∧ cu.length ≤ 17592186044415 := by
  obtain ⟨cs, rfl, h'⟩ := argOk_agg (ts := [29, 29, 29]) (by kernel_rfl) h
  have h := cellsOk_tys (ts := [29, 29, 29]) (by kernel_rfl) h'
  obtain ⟨_, r, rfl, h1, h⟩ := seqOk_cons h
  obtain ⟨_, r, rfl, h2, h⟩ := seqOk_cons h
  obtain ⟨_, r, rfl, h3, h⟩ := seqOk_cons h
  cases seqOk_nil h
  obtain ⟨a, rfl, h1⟩ := slice_cells (e := 3) (by kernel_rfl) h1
  obtain ⟨b, rfl, h2⟩ := slice_cells (e := 3) (by kernel_rfl) h2
  obtain ⟨c, rfl, h3⟩ := slice_cells (e := 3) (by kernel_rfl) h3
  obtain ⟨ix, r1, l1, _⟩ := ints_cells h1
  obtain ⟨co, r2, l2, _⟩ := ints_cells h2
  obtain ⟨cu, r3, l3, _⟩ := ints_cells h3
  exact ⟨ix, co, cu, a, b, c, rfl, r1, r2, r3, l1, l2, l3⟩
theorem wantArg {x : TV} (h : argOk Try.prog 43 x) : ∃ w : Want, x = w.t ∧ In64 w.p.lo ∧ In64 w.p.hi ∧ In64 w.c := by
  obtain ⟨cs, rfl, h'⟩ := argOk_agg (ts := [37, 3]) (by kernel_rfl) h
  have h := cellsOk_tys (ts := [37, 3]) (by kernel_rfl) h'
  obtain ⟨_, r, rfl, h1, h⟩ := seqOk_cons h
  obtain ⟨_, r, rfl, h2, h⟩ := seqOk_cons h
  cases seqOk_nil h
  obtain ⟨a, rfl, a1, a2⟩ := span_cells h1
  obtain ⟨b, rfl, ib⟩ := int_cells h2
  exact ⟨⟨a, b⟩, rfl, a1, a2, ib⟩
theorem intsArg {x : TV} (h : argOk Try.prog 29 x) : ∃ l : List Int, IsRow ic x l ∧ l.length ≤ 17592186044415 ∧ ∀ n ∈ l, In64 n := ints_cells (argOk_sl (e := 3) (by kernel_rfl) h)
theorem frsArg {x : TV} (h : argOk Try.prog 56 x) : ∃ l : List Fr, IsRow Fr.cs x l ∧ l.length ≤ 5864062014805 ∧ ∀ f ∈ l, In64 f.p.lo ∧ In64 f.p.hi ∧ In64 f.r.lo ∧ In64 f.r.hi ∧ In64 f.g := frs_cells (argOk_sl (e := 93) (by kernel_rfl) h)
theorem twoArg {x : TV} (h : argOk Try.prog 91 x) : ∃ a b, x = .agg [.int .i64 a, .int .i64 b] ∧ In64 a ∧ In64 b := by
  obtain ⟨cs, rfl, h'⟩ := argOk_agg (ts := [3, 3]) (by kernel_rfl) h
  have h := cellsOk_tys (ts := [3, 3]) (by kernel_rfl) h'
  obtain ⟨_, r, rfl, h1, h⟩ := seqOk_cons h
  obtain ⟨_, r, rfl, h2, h⟩ := seqOk_cons h
  cases seqOk_nil h
  obtain ⟨a, rfl, ia⟩ := int_cells h1
  obtain ⟨b, rfl, ib⟩ := int_cells h2
  exact ⟨a, b, rfl, ia, ib⟩
end Go.Proofs.Ytcjcnmpecmbdeaa

/- Part Gl. -/
namespace Go.Oc
open Go Go.Pm
theorem obs2_at {m i j a b c : Nat} (hb : b < m) (hc : c < m) (ha : a < m) : (obs2 m i j)[(a * m + b) * m + c]? = some ⟨i, j, a, b, c⟩ := by
  have hm : 0 < m := by omega
  have e1 : ((a * m + b) * m + c) % m = c := by rw [Nat.mul_comm, Nat.mul_add_mod]; exact Nat.mod_eq_of_lt hc
  have e2 : ((a * m + b) * m + c) / m = a * m + b := by rw [Nat.mul_comm (a * m + b) m, Nat.mul_add_div hm, Nat.div_eq_of_lt hc, Nat.add_zero]
  have e3 : (a * m + b) % m = b := by rw [Nat.mul_comm, Nat.mul_add_mod]; exact Nat.mod_eq_of_lt hb
  have e4 : (a * m + b) / m = a := by rw [Nat.mul_comm a m, Nat.mul_add_div hm, Nat.div_eq_of_lt hb, Nat.add_zero]
  have h1 : (a * m + b) * m + c < m * m * m := by
    have q1 : a * m + b + 1 ≤ m * m := by
      have := Nat.mul_le_mul_right m (show a + 1 ≤ m by omega)
      rw [Nat.add_mul, Nat.one_mul] at this
      omega
    have q2 := Nat.mul_le_mul_right m q1
    rw [Nat.add_mul, Nat.one_mul] at q2
    omega
  unfold obs2
  rw [List.getElem?_map, List.getElem?_range h1]
  simp only [Option.map_some, e1, e2, e3, e4]
/-- The better one of two. -/
def cmb (X Y : Bst) : Bst := if Y.is = true ∧ (X.is = false ∨ Y.n < X.n ∨ Y.n = X.n ∧ Y.p < X.p) then Y else X
def sgl (B : List Blank) (T : List Span) (w : Want) (o : Ob) : Bst := if goodB (spansP B T o) w then ⟨o, worstS (spansP B T o).c, priceO B o, true⟩ else bst0
theorem cmb_zero {X : Bst} (h : X.is = false → X = bst0) : cmb bst0 X = X := by
  unfold cmb
  cases hi : X.is with
  | true => rw [if_pos ⟨rfl, .inl rfl⟩]
  | false => rw [if_neg (by rintro ⟨h, _⟩; cases h)]; exact (h hi).symm
theorem bstStep_cmb (B : List Blank) (T : List Span) (w : Want) (X : Bst) (o : Ob) : bstStep B T w X o = cmb X (sgl B T w o) := by
  unfold bstStep cmb sgl
  cases goodB (spansP B T o) w with
  | true => simp
  | false => simp [bst0]
theorem cmb_assoc (X Y Z : Bst) : cmb (cmb X Y) Z = cmb X (cmb Y Z) := by
  obtain ⟨xo, xn, xp, xi⟩ := X
  obtain ⟨yo, yn, yp, yi⟩ := Y
  obtain ⟨zo, zn, zp, zi⟩ := Z
  have t1 : (yn < xn ∨ yn = xn ∧ yp < xp) → (zn < yn ∨ zn = yn ∧ zp < yp) → (zn < xn ∨ zn = xn ∧ zp < xp) := by omega
  have t2 : ¬ (yn < xn ∨ yn = xn ∧ yp < xp) → ¬ (zn < yn ∨ zn = yn ∧ zp < yp) → ¬ (zn < xn ∨ zn = xn ∧ zp < xp) := by omega
  unfold cmb
  by_cases a : yn < xn ∨ yn = xn ∧ yp < xp <;> by_cases b : zn < yn ∨ zn = yn ∧ zp < yp <;> by_cases c : zn < xn ∨ zn = xn ∧ zp < xp
  all_goals first | exact absurd (t1 a b) c | exact absurd c (t2 a b) | skip
  all_goals cases xi <;> cases yi <;> cases zi <;> simp [a, b, c]
theorem fold_cmb (B : List Blank) (T : List Span) (w : Want) : ∀ (L : List Ob) (X : Bst), L.foldl (bstStep B T w) X = cmb X (L.foldl (bstStep B T w) bst0)
  | [], X => by simp [cmb, bst0]
  | o :: L, X => by
    have h0 : ∀ o, (sgl B T w o).is = false → sgl B T w o = bst0 := by
      intro o h
      unfold sgl at h ⊢
      split at h
      · cases h
      · rename_i hg; rw [if_neg hg]
    rw [List.foldl_cons, List.foldl_cons, fold_cmb B T w L (bstStep B T w X o), fold_cmb B T w L (bstStep B T w bst0 o), bstStep_cmb, bstStep_cmb, cmb_assoc, cmb_zero (h0 o)]
/-- All objectives of two blanks cost the same. -/
theorem fold_price (B : List Blank) (T : List Span) (w : Want) (P : Int) : ∀ (L : List Ob) (X : Bst), (∀ o ∈ L, priceO B o = P) → (X.is = true → X.p = P) → (L.foldl (bstStep B T w) X).is = true → (L.foldl (bstStep B T w) X).p = P
  | [], _, _, hX, h => hX h
  | o :: L, X, hL, hX, h => by
    rw [List.foldl_cons] at h ⊢
    refine fold_price B T w P L _ (fun o' ho' => hL o' (List.mem_cons_of_mem _ ho')) ?_ h
    intro h'
    unfold bstStep at h' ⊢
    split at h' <;> rename_i hg
    · rw [if_pos hg]
      split at h' <;> rename_i hc
      · rw [if_pos hc]; exact hL o (by simp)
      · rw [if_neg hc]; exact hX h'
    · rw [if_neg hg]; exact hX h'
theorem obs2_price (B : List Blank) {m i j : Nat} {o : Ob} (h : o ∈ obs2 m i j) : priceO B o = (blankAt B (i : Int)).pr + (blankAt B (j : Int)).pr := by
  unfold obs2 at h
  obtain ⟨t, _, rfl⟩ := List.mem_map.1 h
  rfl
def bst2 (B : List Blank) (T : List Span) (w : Want) (i j k : Nat) : Bst := ((obs2 T.length i j).take k).foldl (bstStep B T w) bst0
theorem bst2_succ {B : List Blank} {T : List Span} (w : Want) {i j k : Nat} {o : Ob} (h : (obs2 T.length i j)[k]? = some o) : bst2 B T w i j (k + 1) = bstStep B T w (bst2 B T w i j k) o := by
  unfold bst2; rw [take_snoc h, List.foldl_append]; rfl
def bstA (B : List Blank) (T : List Span) (w : Want) (i j : Nat) : Bst := (obs2 T.length i j).foldl (bstStep B T w) bst0
/-- What the specification has found behind so many pairs of blanks. -/
def preL (n m a b : Nat) : List Ob := (List.range a).flatMap (obs1 n m) ++ (List.range b).flatMap fun j => if a = j then [] else obs2 m a j
def bstG (B : List Blank) (T : List Span) (w : Want) (a b : Nat) : Bst := (preL B.length T.length a b).foldl (bstStep B T w) bst0
theorem bstG_next (B : List Blank) (T : List Span) (w : Want) (a : Nat) : bstG B T w (a + 1) 0 = bstG B T w a B.length := by
  unfold bstG preL obs1; rw [List.range_succ, List.flatMap_append]; simp
theorem bstG_same (B : List Blank) (T : List Span) (w : Want) (a : Nat) : bstG B T w a (a + 1) = bstG B T w a a := by
  unfold bstG preL; rw [List.range_succ, List.flatMap_append]; simp
theorem bstG_succ (B : List Blank) (T : List Span) (w : Want) {a b : Nat} (h : a ≠ b) : bstG B T w a (b + 1) = cmb (bstG B T w a b) (bstA B T w a b) := by
  unfold bstG preL
  rw [List.range_succ, List.flatMap_append, ← List.append_assoc, List.foldl_append, fold_cmb]
  simp [h, bstA]
theorem bstG_all (B : List Blank) (T : List Span) (w : Want) : bstG B T w B.length 0 = (obsA B.length T.length).foldl (bstStep B T w) bst0 := by
  unfold bstG preL obsA; simp
end Go.Oc
namespace Go.Proofs.Ytcjcnmpecmbdeaa
open Go.RowKit Go.Pm Go.Oc
set_option maxRecDepth 100000
set_option linter.unusedVariables false
set_option maxHeartbeats 4000000

theorem r4All_c {T : List Span} (sB : TV) (fT : Bool) (hT : 1 ≤ T.length ∧ T.length ≤ 6) (i j : Nat) : PCalls Try.prog 95 [.agg [sB, .sl (T.flatMap Span.cs) T.length fT], .int .i64 i, .int .i64 j] (.sl ((obs2 T.length i j).flatMap Ob.cs) (T.length * T.length * T.length) false) := by
  obtain ⟨m, hm⟩ : ∃ m, T.length = m := ⟨_, rfl⟩
  rw [hm] at hT ⊢
  have h36 : m * m ≤ 36 := Nat.mul_le_mul hT.2 hT.2
  have h216 : m * m * m ≤ 216 := by have := Nat.mul_le_mul h36 hT.2; omega
  refine pcalls_by Try.mixes noSpec_ok (fn := Try.f95) Try.func95 rfl (by kernel_rfl) (by show 3 ≤ _; decide) ?_
  simp (decide := true) (maxSteps := 4000000) only [go_sem, Nat.reduceAdd, Nat.reduceSub, Nat.reduceMul, Nat.reduceDiv, Nat.reduceMod, Nat.reduceLT, Nat.reduceLeDiff, Nat.reduceEqDiff, Nat.reduceBEq, Nat.reduceBNe, Nat.reduceGT, Int.reduceAdd, Int.reduceSub, Int.reduceMul, Int.reduceNeg, Int.reduceLT, Int.reduceLE, Int.reduceEq, Int.reduceNe, Int.reduceBEq, Int.reduceBNe, Int.reduceToNat, Int.reduceGT, Int.reduceGE, ↓reduceIte, decide_true, decide_false, eq_self, Nat.mul_one, Nat.zero_mul, Nat.one_mul, Int.le_refl, Nat.le_refl, Int.cast_ofNat_Int, Try.f95, hm]
  have row : ∀ t : Nat, t ≤ m * m * m → (((obs2 m i j).take t).flatMap Ob.cs).length = t * 5 := by
    intro t ht
    rw [flat_len Ob.cs (n := 5) (fun _ => rfl), List.length_take, obs2_len]
    omega
  refine pwpC_loopU (A := { a : Nat // a ≤ m }) [1, 2, 8] (fun a => [(9, .t (.int .i64 a.1)), (7, .own (((obs2 m i j).take (a.1 * m * m)).flatMap Ob.cs) (a.1 * m * m) 1)]) (fun a => [(1, .tok (a.1 * m * m) 28)]) (fun a => m - a.1) ⟨0, by omega⟩ (by decide) (fun _ => by rfl) ?_ fun Q1 hQ1 ⟨a, ha⟩ I1 hI1 => ?_
  · simp (decide := true) (maxSteps := 4000000) only [go_sem, Nat.reduceAdd, Nat.reduceSub, Nat.reduceMul, Nat.reduceDiv, Nat.reduceMod, Nat.reduceLT, Nat.reduceLeDiff, Nat.reduceEqDiff, Nat.reduceBEq, Nat.reduceBNe, Nat.reduceGT, Int.reduceAdd, Int.reduceSub, Int.reduceMul, Int.reduceNeg, Int.reduceLT, Int.reduceLE, Int.reduceEq, Int.reduceNe, Int.reduceBEq, Int.reduceBNe, Int.reduceToNat, Int.reduceGT, Int.reduceGE, ↓reduceIte, decide_true, decide_false, eq_self, Nat.mul_one, Nat.zero_mul, Nat.one_mul, Int.le_refl, Nat.le_refl, Int.cast_ofNat_Int, Nat.zero_mul, List.take_zero, List.flatMap_nil]
    first | done | exact ⟨rfl, rfl⟩ | rfl
  · by_cases hlt : (a : Int) < m
    · have ha1 : IntKind.i64.wrap (a + 1) = ((a + 1 : Nat) : Int) := by rw [wrap_in (by omega) (by omega)]; omega
      have q1 : (a + 1) * m ≤ m * m := Nat.mul_le_mul_right m (by omega)
      have q2 : (a + 1) * m * m ≤ m * m * m := Nat.mul_le_mul_right m q1
      have q3 : (a + 1) * m = a * m + m := Nat.succ_mul a m
      simp (decide := true) (maxSteps := 4000000) only [go_sem, Nat.reduceAdd, Nat.reduceSub, Nat.reduceMul, Nat.reduceDiv, Nat.reduceMod, Nat.reduceLT, Nat.reduceLeDiff, Nat.reduceEqDiff, Nat.reduceBEq, Nat.reduceBNe, Nat.reduceGT, Int.reduceAdd, Int.reduceSub, Int.reduceMul, Int.reduceNeg, Int.reduceLT, Int.reduceLE, Int.reduceEq, Int.reduceNe, Int.reduceBEq, Int.reduceBNe, Int.reduceToNat, Int.reduceGT, Int.reduceGE, ↓reduceIte, decide_true, decide_false, eq_self, Nat.mul_one, Nat.zero_mul, Nat.one_mul, Int.le_refl, Nat.le_refl, Int.cast_ofNat_Int, hlt]
      refine pwpC_loopU (A := { b : Nat // b ≤ m }) [1, 2, 8, 9] (fun b => [(10, .t (.int .i64 b.1)), (7, .own (((obs2 m i j).take ((a * m + b.1) * m)).flatMap Ob.cs) ((a * m + b.1) * m) 1)]) (fun b => [(1, .tok ((a * m + b.1) * m) 28)]) (fun b => m - b.1) ⟨0, by omega⟩ (by decide) (fun _ => by rfl) ?_ fun Q2 hQ2 ⟨b, hb⟩ I2 hI2 => ?_
      · simp (decide := true) (maxSteps := 4000000) only [go_sem, Nat.reduceAdd, Nat.reduceSub, Nat.reduceMul, Nat.reduceDiv, Nat.reduceMod, Nat.reduceLT, Nat.reduceLeDiff, Nat.reduceEqDiff, Nat.reduceBEq, Nat.reduceBNe, Nat.reduceGT, Int.reduceAdd, Int.reduceSub, Int.reduceMul, Int.reduceNeg, Int.reduceLT, Int.reduceLE, Int.reduceEq, Int.reduceNe, Int.reduceBEq, Int.reduceBNe, Int.reduceToNat, Int.reduceGT, Int.reduceGE, ↓reduceIte, decide_true, decide_false, eq_self, Nat.mul_one, Nat.zero_mul, Nat.one_mul, Int.le_refl, Nat.le_refl, Int.cast_ofNat_Int, Nat.add_zero]
      · by_cases hlt2 : (b : Int) < m
        · have hb1 : IntKind.i64.wrap (b + 1) = ((b + 1 : Nat) : Int) := by rw [wrap_in (by omega) (by omega)]; omega
          have p1 : (a * m + (b + 1)) * m ≤ (a + 1) * m * m := Nat.mul_le_mul_right m (by omega)
          have p2 : (a * m + (b + 1)) * m = (a * m + b) * m + m := by rw [← Nat.add_assoc]; exact Nat.succ_mul (a * m + b) m
          simp (decide := true) (maxSteps := 4000000) only [go_sem, Nat.reduceAdd, Nat.reduceSub, Nat.reduceMul, Nat.reduceDiv, Nat.reduceMod, Nat.reduceLT, Nat.reduceLeDiff, Nat.reduceEqDiff, Nat.reduceBEq, Nat.reduceBNe, Nat.reduceGT, Int.reduceAdd, Int.reduceSub, Int.reduceMul, Int.reduceNeg, Int.reduceLT, Int.reduceLE, Int.reduceEq, Int.reduceNe, Int.reduceBEq, Int.reduceBNe, Int.reduceToNat, Int.reduceGT, Int.reduceGE, ↓reduceIte, decide_true, decide_false, eq_self, Nat.mul_one, Nat.zero_mul, Nat.one_mul, Int.le_refl, Nat.le_refl, Int.cast_ofNat_Int, hlt2]
          refine pwpC_loopU (A := { c : Nat // c ≤ m }) [1, 2, 8, 9, 10] (fun c => [(11, .t (.int .i64 c.1)), (7, .own (((obs2 m i j).take ((a * m + b) * m + c.1)).flatMap Ob.cs) ((a * m + b) * m + c.1) 1)]) (fun c => [(1, .tok ((a * m + b) * m + c.1) 28)]) (fun c => m - c.1) ⟨0, by omega⟩ (by decide) (fun _ => by rfl) ?_ fun Q3 hQ3 ⟨c, hc⟩ I3 hI3 => ?_
          · simp (decide := true) (maxSteps := 4000000) only [go_sem, Nat.reduceAdd, Nat.reduceSub, Nat.reduceMul, Nat.reduceDiv, Nat.reduceMod, Nat.reduceLT, Nat.reduceLeDiff, Nat.reduceEqDiff, Nat.reduceBEq, Nat.reduceBNe, Nat.reduceGT, Int.reduceAdd, Int.reduceSub, Int.reduceMul, Int.reduceNeg, Int.reduceLT, Int.reduceLE, Int.reduceEq, Int.reduceNe, Int.reduceBEq, Int.reduceBNe, Int.reduceToNat, Int.reduceGT, Int.reduceGE, ↓reduceIte, decide_true, decide_false, eq_self, Nat.mul_one, Nat.zero_mul, Nat.one_mul, Int.le_refl, Nat.le_refl, Int.cast_ofNat_Int, Nat.add_zero]
          · by_cases hlt3 : (c : Int) < m
            · have hc1 : IntKind.i64.wrap (c + 1) = ((c + 1 : Nat) : Int) := by rw [wrap_in (by omega) (by omega)]; omega
              have hat := obs2_at (m := m) (i := i) (j := j) (a := a) (b := b) (c := c) (by omega) (by omega) (by omega)
              have hrow := row ((a * m + b) * m + c) (by omega)
              have hroom : ((a * m + b) * m + c + 1) * 40 ≤ 140737488355328 := by omega
              have hsn := take_snoc hat
              rw [Nat.add_assoc] at hsn
              simp (decide := true) (maxSteps := 4000000) only [go_sem, Nat.reduceAdd, Nat.reduceSub, Nat.reduceMul, Nat.reduceDiv, Nat.reduceMod, Nat.reduceLT, Nat.reduceLeDiff, Nat.reduceEqDiff, Nat.reduceBEq, Nat.reduceBNe, Nat.reduceGT, Int.reduceAdd, Int.reduceSub, Int.reduceMul, Int.reduceNeg, Int.reduceLT, Int.reduceLE, Int.reduceEq, Int.reduceNe, Int.reduceBEq, Int.reduceBNe, Int.reduceToNat, Int.reduceGT, Int.reduceGE, ↓reduceIte, decide_true, decide_false, eq_self, Nat.mul_one, Nat.zero_mul, Nat.one_mul, Int.le_refl, Nat.le_refl, Int.cast_ofNat_Int, hlt3, hrow, hroom]
              refine hI3 _ ⟨c + 1, by omega⟩ (by simp only; omega) ?_
              simp (decide := true) (maxSteps := 4000000) only [go_sem, Nat.reduceAdd, Nat.reduceSub, Nat.reduceMul, Nat.reduceDiv, Nat.reduceMod, Nat.reduceLT, Nat.reduceLeDiff, Nat.reduceEqDiff, Nat.reduceBEq, Nat.reduceBNe, Nat.reduceGT, Int.reduceAdd, Int.reduceSub, Int.reduceMul, Int.reduceNeg, Int.reduceLT, Int.reduceLE, Int.reduceEq, Int.reduceNe, Int.reduceBEq, Int.reduceBNe, Int.reduceToNat, Int.reduceGT, Int.reduceGE, ↓reduceIte, decide_true, decide_false, eq_self, Nat.mul_one, Nat.zero_mul, Nat.one_mul, Int.le_refl, Nat.le_refl, Int.cast_ofNat_Int, hc1, hsn, List.flatMap_append, Ob.cs, Nat.add_assoc]
            · have hce : c = m := by omega
              subst hce
              simp (decide := true) (maxSteps := 4000000) only [go_sem, Nat.reduceAdd, Nat.reduceSub, Nat.reduceMul, Nat.reduceDiv, Nat.reduceMod, Nat.reduceLT, Nat.reduceLeDiff, Nat.reduceEqDiff, Nat.reduceBEq, Nat.reduceBNe, Nat.reduceGT, Int.reduceAdd, Int.reduceSub, Int.reduceMul, Int.reduceNeg, Int.reduceLT, Int.reduceLE, Int.reduceEq, Int.reduceNe, Int.reduceBEq, Int.reduceBNe, Int.reduceToNat, Int.reduceGT, Int.reduceGE, ↓reduceIte, decide_true, decide_false, eq_self, Nat.mul_one, Nat.zero_mul, Nat.one_mul, Int.le_refl, Nat.le_refl, Int.cast_ofNat_Int, hlt3]
              refine hQ3 _ _ ?_
              simp (decide := true) (maxSteps := 4000000) only [go_sem, Nat.reduceAdd, Nat.reduceSub, Nat.reduceMul, Nat.reduceDiv, Nat.reduceMod, Nat.reduceLT, Nat.reduceLeDiff, Nat.reduceEqDiff, Nat.reduceBEq, Nat.reduceBNe, Nat.reduceGT, Int.reduceAdd, Int.reduceSub, Int.reduceMul, Int.reduceNeg, Int.reduceLT, Int.reduceLE, Int.reduceEq, Int.reduceNe, Int.reduceBEq, Int.reduceBNe, Int.reduceToNat, Int.reduceGT, Int.reduceGE, ↓reduceIte, decide_true, decide_false, eq_self, Nat.mul_one, Nat.zero_mul, Nat.one_mul, Int.le_refl, Nat.le_refl, Int.cast_ofNat_Int]
              refine hI2 _ ⟨b + 1, by omega⟩ (by simp only; omega) ?_
              simp (decide := true) (maxSteps := 4000000) only [go_sem, Nat.reduceAdd, Nat.reduceSub, Nat.reduceMul, Nat.reduceDiv, Nat.reduceMod, Nat.reduceLT, Nat.reduceLeDiff, Nat.reduceEqDiff, Nat.reduceBEq, Nat.reduceBNe, Nat.reduceGT, Int.reduceAdd, Int.reduceSub, Int.reduceMul, Int.reduceNeg, Int.reduceLT, Int.reduceLE, Int.reduceEq, Int.reduceNe, Int.reduceBEq, Int.reduceBNe, Int.reduceToNat, Int.reduceGT, Int.reduceGE, ↓reduceIte, decide_true, decide_false, eq_self, Nat.mul_one, Nat.zero_mul, Nat.one_mul, Int.le_refl, Nat.le_refl, Int.cast_ofNat_Int, hb1, p2]
        · have hbe : b = m := by omega
          subst hbe
          simp (decide := true) (maxSteps := 4000000) only [go_sem, Nat.reduceAdd, Nat.reduceSub, Nat.reduceMul, Nat.reduceDiv, Nat.reduceMod, Nat.reduceLT, Nat.reduceLeDiff, Nat.reduceEqDiff, Nat.reduceBEq, Nat.reduceBNe, Nat.reduceGT, Int.reduceAdd, Int.reduceSub, Int.reduceMul, Int.reduceNeg, Int.reduceLT, Int.reduceLE, Int.reduceEq, Int.reduceNe, Int.reduceBEq, Int.reduceBNe, Int.reduceToNat, Int.reduceGT, Int.reduceGE, ↓reduceIte, decide_true, decide_false, eq_self, Nat.mul_one, Nat.zero_mul, Nat.one_mul, Int.le_refl, Nat.le_refl, Int.cast_ofNat_Int, hlt2]
          refine hQ2 _ _ ?_
          simp (decide := true) (maxSteps := 4000000) only [go_sem, Nat.reduceAdd, Nat.reduceSub, Nat.reduceMul, Nat.reduceDiv, Nat.reduceMod, Nat.reduceLT, Nat.reduceLeDiff, Nat.reduceEqDiff, Nat.reduceBEq, Nat.reduceBNe, Nat.reduceGT, Int.reduceAdd, Int.reduceSub, Int.reduceMul, Int.reduceNeg, Int.reduceLT, Int.reduceLE, Int.reduceEq, Int.reduceNe, Int.reduceBEq, Int.reduceBNe, Int.reduceToNat, Int.reduceGT, Int.reduceGE, ↓reduceIte, decide_true, decide_false, eq_self, Nat.mul_one, Nat.zero_mul, Nat.one_mul, Int.le_refl, Nat.le_refl, Int.cast_ofNat_Int]
          refine hI1 _ ⟨a + 1, by omega⟩ (by simp only; omega) ?_
          simp (decide := true) (maxSteps := 4000000) only [go_sem, Nat.reduceAdd, Nat.reduceSub, Nat.reduceMul, Nat.reduceDiv, Nat.reduceMod, Nat.reduceLT, Nat.reduceLeDiff, Nat.reduceEqDiff, Nat.reduceBEq, Nat.reduceBNe, Nat.reduceGT, Int.reduceAdd, Int.reduceSub, Int.reduceMul, Int.reduceNeg, Int.reduceLT, Int.reduceLE, Int.reduceEq, Int.reduceNe, Int.reduceBEq, Int.reduceBNe, Int.reduceToNat, Int.reduceGT, Int.reduceGE, ↓reduceIte, decide_true, decide_false, eq_self, Nat.mul_one, Nat.zero_mul, Nat.one_mul, Int.le_refl, Nat.le_refl, Int.cast_ofNat_Int, ha1, q3]
    · have hae : a = m := by omega
      subst hae
      have hn : ¬ a * a * a = 0 := by
        have := Nat.mul_pos (Nat.mul_pos (show 0 < a by omega) (show 0 < a by omega)) (show 0 < a by omega)
        omega
      have hall : (obs2 a i j).take (a * a * a) = obs2 a i j := List.take_of_length_le (by rw [obs2_len]; omega)
      simp (decide := true) (maxSteps := 4000000) only [go_sem, Nat.reduceAdd, Nat.reduceSub, Nat.reduceMul, Nat.reduceDiv, Nat.reduceMod, Nat.reduceLT, Nat.reduceLeDiff, Nat.reduceEqDiff, Nat.reduceBEq, Nat.reduceBNe, Nat.reduceGT, Int.reduceAdd, Int.reduceSub, Int.reduceMul, Int.reduceNeg, Int.reduceLT, Int.reduceLE, Int.reduceEq, Int.reduceNe, Int.reduceBEq, Int.reduceBNe, Int.reduceToNat, Int.reduceGT, Int.reduceGE, ↓reduceIte, decide_true, decide_false, eq_self, Nat.mul_one, Nat.zero_mul, Nat.one_mul, Int.le_refl, Nat.le_refl, Int.cast_ofNat_Int, hlt]
      refine hQ1 _ _ ?_
      simp (decide := true) (maxSteps := 4000000) only [go_sem, Nat.reduceAdd, Nat.reduceSub, Nat.reduceMul, Nat.reduceDiv, Nat.reduceMod, Nat.reduceLT, Nat.reduceLeDiff, Nat.reduceEqDiff, Nat.reduceBEq, Nat.reduceBNe, Nat.reduceGT, Int.reduceAdd, Int.reduceSub, Int.reduceMul, Int.reduceNeg, Int.reduceLT, Int.reduceLE, Int.reduceEq, Int.reduceNe, Int.reduceBEq, Int.reduceBNe, Int.reduceToNat, Int.reduceGT, Int.reduceGE, ↓reduceIte, decide_true, decide_false, eq_self, Nat.mul_one, Nat.zero_mul, Nat.one_mul, Int.le_refl, Nat.le_refl, Int.cast_ofNat_Int, hn, hall]
noncomputable def rAll : List TV → Option TV
  | [.agg [sB, .sl cT n fT], .int .i64 i, .int .i64 j] => match unSpans cT with
    | some T => if n = T.length ∧ (1 ≤ T.length ∧ T.length ≤ 6) ∧ 0 ≤ i ∧ 0 ≤ j then some (.sl ((obs2 T.length i.toNat j.toNat).flatMap Ob.cs) (T.length * T.length * T.length) false) else none
    | none => none
  | _ => none
theorem rAll_ok : ∀ xs r, rAll xs = some r → PCalls Try.prog 95 xs r := by
  intro xs r h
  unfold rAll at h
  split at h
  · rename_i sB cT n fT i j
    split at h
    · rename_i T hT
      split at h
      · rename_i hc; cases h
        obtain ⟨rfl, h1, h2, h3⟩ := hc
        rw [unSpans_some hT]
        have := r4All_c (T := T) sB fT h1 i.toNat j.toNat
        rw [Int.toNat_of_nonneg h2, Int.toNat_of_nonneg h3] at this
        exact this
      · cases h
    · cases h
  · cases h
attribute [go_sem] rAll
noncomputable def spL1 : Pm.Spec := spY1.one 95 rAll
@[go_sem] theorem spL1_p (f : FuncId) (xs : List TV) : spL1.p f xs = Pm.Spec.p (spY1.one 95 rAll) f xs := rfl
@[go_sem] theorem spL1_h (f : FuncId) (ps : List PV) (hl : List PO) : spL1.h f ps hl = Pm.Spec.h (spY1.one 95 rAll) f ps hl := rfl
@[go_sem] theorem spL1_fz (f : FuncId) : spL1.fz f = Pm.Spec.fz (spY1.one 95 rAll) f := rfl
@[go_sem] theorem spL1_fr (f : FuncId) : spL1.fr f = Pm.Spec.fr (spY1.one 95 rAll) f := rfl
@[go_sem] theorem spL1_mu (t : TypeId) : spL1.mu t = Pm.Spec.mu (spY1.one 95 rAll) t := rfl
theorem spL1_ok : SpecOk Try.prog spL1 := Spec.one_ok rAll_ok spY1_ok
theorem r4BestV_c {B : List Blank} {T : List Span} (fB fT : Bool) (hs : stockOk B T = true) (w : Want) (i j : Nat) (hi : i < B.length) (hj : j < B.length) (hij : i ≠ j) : PCalls Try.prog 71 [.agg [.sl (B.flatMap Blank.cs) B.length fB, .sl (T.flatMap Span.cs) T.length fT], w.t, .int .i64 i, .int .i64 j]
    (.tup [(bstA B T w i j).o.t, .int .i64 (bstA B T w i j).n, .bool (bstA B T w i j).is]) := by
  have hs' := stockOk_iff.1 hs
  obtain ⟨N, hN⟩ : ∃ N, T.length * T.length * T.length = N := ⟨_, rfl⟩
  have hNl : (obs2 T.length i j).length = N := by rw [obs2_len, hN]
  have h36 : T.length * T.length ≤ 36 := Nat.mul_le_mul hs'.2.1.2 hs'.2.1.2
  have h216 : T.length * T.length * T.length ≤ 216 := by have := Nat.mul_le_mul h36 hs'.2.1.2; omega
  have hres : bstA B T w i j = bst2 B T w i j N := by unfold bst2; rw [← hNl, List.take_length]; rfl
  have c1 : (1 ≤ T.length ∧ T.length ≤ 6) ∧ 0 ≤ (i : Int) ∧ 0 ≤ (j : Int) := by omega
  rw [hres]
  refine pcalls_by Try.mixes spL1_ok (fn := Try.f71) Try.func71 rfl (by kernel_rfl) (by show 4 ≤ _; decide) ?_
  simp (decide := true) (maxSteps := 4000000) only [go_sem, Nat.reduceAdd, Nat.reduceSub, Nat.reduceMul, Nat.reduceDiv, Nat.reduceMod, Nat.reduceLT, Nat.reduceLeDiff, Nat.reduceEqDiff, Nat.reduceBEq, Nat.reduceBNe, Nat.reduceGT, Int.reduceAdd, Int.reduceSub, Int.reduceMul, Int.reduceNeg, Int.reduceLT, Int.reduceLE, Int.reduceEq, Int.reduceNe, Int.reduceBEq, Int.reduceBNe, Int.reduceToNat, Int.reduceGT, Int.reduceGE, ↓reduceIte, decide_true, decide_false, eq_self, Nat.mul_one, Nat.zero_mul, Nat.one_mul, Int.le_refl, Nat.le_refl, Int.cast_ofNat_Int, Try.f71, Want.t, c1, Int.toNat_natCast, hN]
  refine pwpC_loopU (A := { k : Nat // k ≤ N }) [4, 5, 8, 11, 14] (fun k => [(15, .t (.int .i64 k.1)), (12, .t (.int .i64 (bst2 B T w i j k.1).n)), (13, .t (.bool (bst2 B T w i j k.1).is))]) (fun k => [(3, .box ((bst2 B T w i j k.1).o.cs.map .t))]) (fun k => N - k.1) ⟨0, by omega⟩ (by decide) (fun _ => by rfl) ?_ fun Q1 hQ1 ⟨k, hk⟩ I1 hI1 => ?_
  · simp (decide := true) (maxSteps := 4000000) only [go_sem, Nat.reduceAdd, Nat.reduceSub, Nat.reduceMul, Nat.reduceDiv, Nat.reduceMod, Nat.reduceLT, Nat.reduceLeDiff, Nat.reduceEqDiff, Nat.reduceBEq, Nat.reduceBNe, Nat.reduceGT, Int.reduceAdd, Int.reduceSub, Int.reduceMul, Int.reduceNeg, Int.reduceLT, Int.reduceLE, Int.reduceEq, Int.reduceNe, Int.reduceBEq, Int.reduceBNe, Int.reduceToNat, Int.reduceGT, Int.reduceGE, ↓reduceIte, decide_true, decide_false, eq_self, Nat.mul_one, Nat.zero_mul, Nat.one_mul, Int.le_refl, Nat.le_refl, Int.cast_ofNat_Int, bst2, List.take_zero, List.foldl_nil, bst0, Ob.cs]
    first | done | rfl
  · by_cases hlt : (k : Int) < N
    · obtain ⟨o, ho⟩ := get_lt (l := obs2 T.length i j) (k := k) (by omega)
      have hd := flat_at Ob.cs (n := 5) (fun _ => rfl) ho
      have hc1 : IntKind.i64.wrap (k + 1) = ((k + 1 : Nat) : Int) := by rw [wrap_in (by omega) (by omega)]; omega
      have hst := bst2_succ (B := B) w ho
      have hop := obs2_price B (List.mem_of_getElem? ho)
      have hob : obOk B.length T.length o = true := by
        have hmem := List.mem_of_getElem? ho
        refine obs_mem (by omega) (n := B.length) ?_
        unfold obsA obs1
        refine List.mem_flatMap.2 ⟨i, List.mem_range.2 hi, List.mem_flatMap.2 ⟨j, List.mem_range.2 hj, ?_⟩⟩
        rw [if_neg hij]; exact hmem
      have hpr := fold_price B T w ((blankAt B (i : Int)).pr + (blankAt B (j : Int)).pr) ((obs2 T.length i j).take k) bst0 (fun o ho => obs2_price B (List.mem_of_mem_take ho)) (fun h => by cases h)
      change (bst2 B T w i j k).is = true → (bst2 B T w i j k).p = _ at hpr
      unfold bstStep at hst
      rw [hop] at hst
      obtain ⟨⟨Xo, Xn, Xp, Xi⟩, hX⟩ : ∃ X, bst2 B T w i j k = X := ⟨_, rfl⟩
      rw [hX] at hst hpr
      obtain ⟨n, hn⟩ : ∃ n, worstS (spansP B T o).c = n := ⟨_, rfl⟩
      rw [hn] at hst
      cases hg : goodB (spansP B T o) w with
      | false =>
        rw [hg] at hst
        simp only [Bool.false_eq_true, if_false] at hst
        cases Xi <;> simp (decide := true) (maxSteps := 4000000) only [go_sem, Nat.reduceAdd, Nat.reduceSub, Nat.reduceMul, Nat.reduceDiv, Nat.reduceMod, Nat.reduceLT, Nat.reduceLeDiff, Nat.reduceEqDiff, Nat.reduceBEq, Nat.reduceBNe, Nat.reduceGT, Int.reduceAdd, Int.reduceSub, Int.reduceMul, Int.reduceNeg, Int.reduceLT, Int.reduceLE, Int.reduceEq, Int.reduceNe, Int.reduceBEq, Int.reduceBNe, Int.reduceToNat, Int.reduceGT, Int.reduceGE, ↓reduceIte, decide_true, decide_false, eq_self, Nat.mul_one, Nat.zero_mul, Nat.one_mul, Int.le_refl, Nat.le_refl, Int.cast_ofNat_Int, hX, hlt, hd, Ob.cs, Ob.t, Want.t, hs, hob, hg, hn, Int.toNat_natCast]
        all_goals refine hI1 _ ⟨k + 1, by omega⟩ (by simp only; omega) ?_
        all_goals simp (decide := true) (maxSteps := 4000000) only [go_sem, Nat.reduceAdd, Nat.reduceSub, Nat.reduceMul, Nat.reduceDiv, Nat.reduceMod, Nat.reduceLT, Nat.reduceLeDiff, Nat.reduceEqDiff, Nat.reduceBEq, Nat.reduceBNe, Nat.reduceGT, Int.reduceAdd, Int.reduceSub, Int.reduceMul, Int.reduceNeg, Int.reduceLT, Int.reduceLE, Int.reduceEq, Int.reduceNe, Int.reduceBEq, Int.reduceBNe, Int.reduceToNat, Int.reduceGT, Int.reduceGE, ↓reduceIte, decide_true, decide_false, eq_self, Nat.mul_one, Nat.zero_mul, Nat.one_mul, Int.le_refl, Nat.le_refl, Int.cast_ofNat_Int, hc1, hst, Ob.cs]
      | true =>
        rw [hg] at hst
        simp only [if_true] at hst
        cases Xi with
        | false =>
          rw [if_pos (.inl rfl)] at hst
          simp (decide := true) (maxSteps := 4000000) only [go_sem, Nat.reduceAdd, Nat.reduceSub, Nat.reduceMul, Nat.reduceDiv, Nat.reduceMod, Nat.reduceLT, Nat.reduceLeDiff, Nat.reduceEqDiff, Nat.reduceBEq, Nat.reduceBNe, Nat.reduceGT, Int.reduceAdd, Int.reduceSub, Int.reduceMul, Int.reduceNeg, Int.reduceLT, Int.reduceLE, Int.reduceEq, Int.reduceNe, Int.reduceBEq, Int.reduceBNe, Int.reduceToNat, Int.reduceGT, Int.reduceGE, ↓reduceIte, decide_true, decide_false, eq_self, Nat.mul_one, Nat.zero_mul, Nat.one_mul, Int.le_refl, Nat.le_refl, Int.cast_ofNat_Int, hX, hlt, hd, Ob.cs, Ob.t, Want.t, hs, hob, hg, hn, Int.toNat_natCast]
          refine hI1 _ ⟨k + 1, by omega⟩ (by simp only; omega) ?_
          simp (decide := true) (maxSteps := 4000000) only [go_sem, Nat.reduceAdd, Nat.reduceSub, Nat.reduceMul, Nat.reduceDiv, Nat.reduceMod, Nat.reduceLT, Nat.reduceLeDiff, Nat.reduceEqDiff, Nat.reduceBEq, Nat.reduceBNe, Nat.reduceGT, Int.reduceAdd, Int.reduceSub, Int.reduceMul, Int.reduceNeg, Int.reduceLT, Int.reduceLE, Int.reduceEq, Int.reduceNe, Int.reduceBEq, Int.reduceBNe, Int.reduceToNat, Int.reduceGT, Int.reduceGE, ↓reduceIte, decide_true, decide_false, eq_self, Nat.mul_one, Nat.zero_mul, Nat.one_mul, Int.le_refl, Nat.le_refl, Int.cast_ofNat_Int, hc1, hst, Ob.cs]
        | true =>
          have hpr := hpr rfl
          simp only at hpr
          by_cases h1 : n < Xn
          · rw [if_pos (.inr (.inl h1))] at hst
            simp (decide := true) (maxSteps := 4000000) only [go_sem, Nat.reduceAdd, Nat.reduceSub, Nat.reduceMul, Nat.reduceDiv, Nat.reduceMod, Nat.reduceLT, Nat.reduceLeDiff, Nat.reduceEqDiff, Nat.reduceBEq, Nat.reduceBNe, Nat.reduceGT, Int.reduceAdd, Int.reduceSub, Int.reduceMul, Int.reduceNeg, Int.reduceLT, Int.reduceLE, Int.reduceEq, Int.reduceNe, Int.reduceBEq, Int.reduceBNe, Int.reduceToNat, Int.reduceGT, Int.reduceGE, ↓reduceIte, decide_true, decide_false, eq_self, Nat.mul_one, Nat.zero_mul, Nat.one_mul, Int.le_refl, Nat.le_refl, Int.cast_ofNat_Int, hX, hlt, hd, Ob.cs, Ob.t, Want.t, hs, hob, hg, hn, h1, Int.toNat_natCast]
            refine hI1 _ ⟨k + 1, by omega⟩ (by simp only; omega) ?_
            simp (decide := true) (maxSteps := 4000000) only [go_sem, Nat.reduceAdd, Nat.reduceSub, Nat.reduceMul, Nat.reduceDiv, Nat.reduceMod, Nat.reduceLT, Nat.reduceLeDiff, Nat.reduceEqDiff, Nat.reduceBEq, Nat.reduceBNe, Nat.reduceGT, Int.reduceAdd, Int.reduceSub, Int.reduceMul, Int.reduceNeg, Int.reduceLT, Int.reduceLE, Int.reduceEq, Int.reduceNe, Int.reduceBEq, Int.reduceBNe, Int.reduceToNat, Int.reduceGT, Int.reduceGE, ↓reduceIte, decide_true, decide_false, eq_self, Nat.mul_one, Nat.zero_mul, Nat.one_mul, Int.le_refl, Nat.le_refl, Int.cast_ofNat_Int, hc1, hst, Ob.cs]
          · rw [if_neg (by rintro (h | h | h); cases h; exact h1 h; omega)] at hst
            simp (decide := true) (maxSteps := 4000000) only [go_sem, Nat.reduceAdd, Nat.reduceSub, Nat.reduceMul, Nat.reduceDiv, Nat.reduceMod, Nat.reduceLT, Nat.reduceLeDiff, Nat.reduceEqDiff, Nat.reduceBEq, Nat.reduceBNe, Nat.reduceGT, Int.reduceAdd, Int.reduceSub, Int.reduceMul, Int.reduceNeg, Int.reduceLT, Int.reduceLE, Int.reduceEq, Int.reduceNe, Int.reduceBEq, Int.reduceBNe, Int.reduceToNat, Int.reduceGT, Int.reduceGE, ↓reduceIte, decide_true, decide_false, eq_self, Nat.mul_one, Nat.zero_mul, Nat.one_mul, Int.le_refl, Nat.le_refl, Int.cast_ofNat_Int, hX, hlt, hd, Ob.cs, Ob.t, Want.t, hs, hob, hg, hn, h1, Int.toNat_natCast]
            refine hI1 _ ⟨k + 1, by omega⟩ (by simp only; omega) ?_
            simp (decide := true) (maxSteps := 4000000) only [go_sem, Nat.reduceAdd, Nat.reduceSub, Nat.reduceMul, Nat.reduceDiv, Nat.reduceMod, Nat.reduceLT, Nat.reduceLeDiff, Nat.reduceEqDiff, Nat.reduceBEq, Nat.reduceBNe, Nat.reduceGT, Int.reduceAdd, Int.reduceSub, Int.reduceMul, Int.reduceNeg, Int.reduceLT, Int.reduceLE, Int.reduceEq, Int.reduceNe, Int.reduceBEq, Int.reduceBNe, Int.reduceToNat, Int.reduceGT, Int.reduceGE, ↓reduceIte, decide_true, decide_false, eq_self, Nat.mul_one, Nat.zero_mul, Nat.one_mul, Int.le_refl, Nat.le_refl, Int.cast_ofNat_Int, hc1, hst, Ob.cs]
    · have hke : k = N := by omega
      subst hke
      simp (decide := true) (maxSteps := 4000000) only [go_sem, Nat.reduceAdd, Nat.reduceSub, Nat.reduceMul, Nat.reduceDiv, Nat.reduceMod, Nat.reduceLT, Nat.reduceLeDiff, Nat.reduceEqDiff, Nat.reduceBEq, Nat.reduceBNe, Nat.reduceGT, Int.reduceAdd, Int.reduceSub, Int.reduceMul, Int.reduceNeg, Int.reduceLT, Int.reduceLE, Int.reduceEq, Int.reduceNe, Int.reduceBEq, Int.reduceBNe, Int.reduceToNat, Int.reduceGT, Int.reduceGE, ↓reduceIte, decide_true, decide_false, eq_self, Nat.mul_one, Nat.zero_mul, Nat.one_mul, Int.le_refl, Nat.le_refl, Int.cast_ofNat_Int, hlt]
      refine hQ1 _ _ ?_
      simp (decide := true) (maxSteps := 4000000) only [go_sem, Nat.reduceAdd, Nat.reduceSub, Nat.reduceMul, Nat.reduceDiv, Nat.reduceMod, Nat.reduceLT, Nat.reduceLeDiff, Nat.reduceEqDiff, Nat.reduceBEq, Nat.reduceBNe, Nat.reduceGT, Int.reduceAdd, Int.reduceSub, Int.reduceMul, Int.reduceNeg, Int.reduceLT, Int.reduceLE, Int.reduceEq, Int.reduceNe, Int.reduceBEq, Int.reduceBNe, Int.reduceToNat, Int.reduceGT, Int.reduceGE, ↓reduceIte, decide_true, decide_false, eq_self, Nat.mul_one, Nat.zero_mul, Nat.one_mul, Int.le_refl, Nat.le_refl, Int.cast_ofNat_Int, Ob.cs, Ob.t]
noncomputable def rBestV : List TV → Option TV
  | [.agg [.sl cB n fB, .sl cT m fT], .agg [.int .i64 x, .int .i64 y, .int .i64 z], .int .i64 i, .int .i64 j] => match unBlanks cB, unSpans cT with
    | some B, some T => if n = B.length ∧ m = T.length ∧ stockOk B T = true ∧ (0 ≤ i ∧ i < B.length) ∧ (0 ≤ j ∧ j < B.length) ∧ i ≠ j then
        some (.tup [(bstA B T ⟨⟨x, y⟩, z⟩ i.toNat j.toNat).o.t, .int .i64 (bstA B T ⟨⟨x, y⟩, z⟩ i.toNat j.toNat).n, .bool (bstA B T ⟨⟨x, y⟩, z⟩ i.toNat j.toNat).is]) else none
    | _, _ => none
  | _ => none
theorem rBestV_ok : ∀ xs r, rBestV xs = some r → PCalls Try.prog 71 xs r := by
  intro xs r h
  unfold rBestV at h
  split at h
  · rename_i cB n fB cT m fT x y z i j
    split at h
    · rename_i B T hB hT
      split at h
      · rename_i hc; cases h
        obtain ⟨rfl, rfl, h1, h2, h3, h4⟩ := hc
        rw [unBlanks_some hB, unSpans_some hT]
        have := r4BestV_c (B := B) (T := T) fB fT h1 ⟨⟨x, y⟩, z⟩ i.toNat j.toNat (by omega) (by omega) (by omega)
        rw [Int.toNat_of_nonneg h2.1, Int.toNat_of_nonneg h3.1] at this
        exact this
      · cases h
    · cases h
  · cases h
attribute [go_sem] rBestV
noncomputable def spL2 : Pm.Spec := spL1.one 71 rBestV
@[go_sem] theorem spL2_p (f : FuncId) (xs : List TV) : spL2.p f xs = Pm.Spec.p (spL1.one 71 rBestV) f xs := rfl
@[go_sem] theorem spL2_h (f : FuncId) (ps : List PV) (hl : List PO) : spL2.h f ps hl = Pm.Spec.h (spL1.one 71 rBestV) f ps hl := rfl
@[go_sem] theorem spL2_fz (f : FuncId) : spL2.fz f = Pm.Spec.fz (spL1.one 71 rBestV) f := rfl
@[go_sem] theorem spL2_fr (f : FuncId) : spL2.fr f = Pm.Spec.fr (spL1.one 71 rBestV) f := rfl
@[go_sem] theorem spL2_mu (t : TypeId) : spL2.mu t = Pm.Spec.mu (spL1.one 71 rBestV) t := rfl
theorem spL2_ok : SpecOk Try.prog spL2 := Spec.one_ok rBestV_ok spL1_ok
theorem r4Best_c {B : List Blank} {T : List Span} {sB sT : TV} (hB : IsRow Blank.cs sB B) (hT : IsRow Span.cs sT T) (hlB : B.length ≤ 5864062014806) (hlT : T.length ≤ 9000000000000) (w : Want) : PCalls Try.prog 26 [.agg [sB, sT], w.t] (.tup [(bestP B T w).1.t, .int .i64 (bestP B T w).2.1, .int .i64 (bestP B T w).2.2]) := by
  have u1 : unBlanks [] = some [] := rfl
  have u2 : unSpans [] = some [] := rfl
  refine pcalls_by Try.mixes spL2_ok (fn := Try.f26) Try.func26 rfl (by kernel_rfl) (by show 2 ≤ _; decide) ?_
  unfold bestP
  cases hs : stockOk B T with
  | false => rcases hB with ⟨rfl, rfl⟩ | ⟨fB, rfl⟩ <;> rcases hT with ⟨rfl, rfl⟩ | ⟨fT, rfl⟩ <;> simp (decide := true) (maxSteps := 4000000) only [go_sem, Nat.reduceAdd, Nat.reduceSub, Nat.reduceMul, Nat.reduceDiv, Nat.reduceMod, Nat.reduceLT, Nat.reduceLeDiff, Nat.reduceEqDiff, Nat.reduceBEq, Nat.reduceBNe, Nat.reduceGT, Int.reduceAdd, Int.reduceSub, Int.reduceMul, Int.reduceNeg, Int.reduceLT, Int.reduceLE, Int.reduceEq, Int.reduceNe, Int.reduceBEq, Int.reduceBNe, Int.reduceToNat, Int.reduceGT, Int.reduceGE, ↓reduceIte, decide_true, decide_false, eq_self, Nat.mul_one, Nat.zero_mul, Nat.one_mul, Int.le_refl, Nat.le_refl, Int.cast_ofNat_Int, Try.f26, Want.t, u1, u2, hlB, hlT, hs, List.length_nil, bst0, Ob.t, Ob.cs]
  | true =>
    have hs' := stockOk_iff.1 hs
    obtain ⟨fB, rfl⟩ := hB.ne (by omega)
    obtain ⟨fT, rfl⟩ := hT.ne (by omega)
    cases hw : wantOk w with
    | false => simp (decide := true) (maxSteps := 4000000) only [go_sem, Nat.reduceAdd, Nat.reduceSub, Nat.reduceMul, Nat.reduceDiv, Nat.reduceMod, Nat.reduceLT, Nat.reduceLeDiff, Nat.reduceEqDiff, Nat.reduceBEq, Nat.reduceBNe, Nat.reduceGT, Int.reduceAdd, Int.reduceSub, Int.reduceMul, Int.reduceNeg, Int.reduceLT, Int.reduceLE, Int.reduceEq, Int.reduceNe, Int.reduceBEq, Int.reduceBNe, Int.reduceToNat, Int.reduceGT, Int.reduceGE, ↓reduceIte, decide_true, decide_false, eq_self, Nat.mul_one, Nat.zero_mul, Nat.one_mul, Int.le_refl, Nat.le_refl, Int.cast_ofNat_Int, Try.f26, Want.t, hlB, hlT, hs, hw, bst0, Ob.t, Ob.cs]
    | true =>
      rw [← bstG_all]
      simp (decide := true) (maxSteps := 4000000) only [go_sem, Nat.reduceAdd, Nat.reduceSub, Nat.reduceMul, Nat.reduceDiv, Nat.reduceMod, Nat.reduceLT, Nat.reduceLeDiff, Nat.reduceEqDiff, Nat.reduceBEq, Nat.reduceBNe, Nat.reduceGT, Int.reduceAdd, Int.reduceSub, Int.reduceMul, Int.reduceNeg, Int.reduceLT, Int.reduceLE, Int.reduceEq, Int.reduceNe, Int.reduceBEq, Int.reduceBNe, Int.reduceToNat, Int.reduceGT, Int.reduceGE, ↓reduceIte, decide_true, decide_false, eq_self, Nat.mul_one, Nat.zero_mul, Nat.one_mul, Int.le_refl, Nat.le_refl, Int.cast_ofNat_Int, Try.f26, Want.t, hlB, hlT, hs, hw]
      refine pwpC_loopU (A := { a : Nat // a ≤ B.length }) [2, 3, 4, 8] (fun a => [(12, .t (.int .i64 a.1)), (9, .t (.int .i64 (bstG B T w a.1 0).n)), (10, .t (.int .i64 (bstG B T w a.1 0).p)), (11, .t (.bool (bstG B T w a.1 0).is))]) (fun a => [(3, .box ((bstG B T w a.1 0).o.cs.map .t))]) (fun a => B.length - a.1) ⟨0, by omega⟩ (by decide) (fun _ => by rfl) ?_ fun Q1 hQ1 ⟨a, ha⟩ I1 hI1 => ?_
      · simp (decide := true) (maxSteps := 4000000) only [go_sem, Nat.reduceAdd, Nat.reduceSub, Nat.reduceMul, Nat.reduceDiv, Nat.reduceMod, Nat.reduceLT, Nat.reduceLeDiff, Nat.reduceEqDiff, Nat.reduceBEq, Nat.reduceBNe, Nat.reduceGT, Int.reduceAdd, Int.reduceSub, Int.reduceMul, Int.reduceNeg, Int.reduceLT, Int.reduceLE, Int.reduceEq, Int.reduceNe, Int.reduceBEq, Int.reduceBNe, Int.reduceToNat, Int.reduceGT, Int.reduceGE, ↓reduceIte, decide_true, decide_false, eq_self, Nat.mul_one, Nat.zero_mul, Nat.one_mul, Int.le_refl, Nat.le_refl, Int.cast_ofNat_Int, bstG, preL, List.range_zero, List.flatMap_nil, List.append_nil, List.foldl_nil, bst0, Ob.cs]
        first | done | exact ⟨rfl, rfl⟩ | rfl
      · by_cases hlt : (a : Int) < B.length
        · have ha1 : IntKind.i64.wrap (a + 1) = ((a + 1 : Nat) : Int) := by rw [wrap_in (by omega) (by omega)]; omega
          simp (decide := true) (maxSteps := 4000000) only [go_sem, Nat.reduceAdd, Nat.reduceSub, Nat.reduceMul, Nat.reduceDiv, Nat.reduceMod, Nat.reduceLT, Nat.reduceLeDiff, Nat.reduceEqDiff, Nat.reduceBEq, Nat.reduceBNe, Nat.reduceGT, Int.reduceAdd, Int.reduceSub, Int.reduceMul, Int.reduceNeg, Int.reduceLT, Int.reduceLE, Int.reduceEq, Int.reduceNe, Int.reduceBEq, Int.reduceBNe, Int.reduceToNat, Int.reduceGT, Int.reduceGE, ↓reduceIte, decide_true, decide_false, eq_self, Nat.mul_one, Nat.zero_mul, Nat.one_mul, Int.le_refl, Nat.le_refl, Int.cast_ofNat_Int, hlt]
          refine pwpC_loopU (A := { b : Nat // b ≤ B.length }) [2, 3, 4, 8, 12] (fun b => [(13, .t (.int .i64 b.1)), (9, .t (.int .i64 (bstG B T w a b.1).n)), (10, .t (.int .i64 (bstG B T w a b.1).p)), (11, .t (.bool (bstG B T w a b.1).is))]) (fun b => [(3, .box ((bstG B T w a b.1).o.cs.map .t))]) (fun b => B.length - b.1) ⟨0, by omega⟩ (by decide) (fun _ => by rfl) ?_ fun Q2 hQ2 ⟨b, hb⟩ I2 hI2 => ?_
          · simp (decide := true) (maxSteps := 4000000) only [go_sem, Nat.reduceAdd, Nat.reduceSub, Nat.reduceMul, Nat.reduceDiv, Nat.reduceMod, Nat.reduceLT, Nat.reduceLeDiff, Nat.reduceEqDiff, Nat.reduceBEq, Nat.reduceBNe, Nat.reduceGT, Int.reduceAdd, Int.reduceSub, Int.reduceMul, Int.reduceNeg, Int.reduceLT, Int.reduceLE, Int.reduceEq, Int.reduceNe, Int.reduceBEq, Int.reduceBNe, Int.reduceToNat, Int.reduceGT, Int.reduceGE, ↓reduceIte, decide_true, decide_false, eq_self, Nat.mul_one, Nat.zero_mul, Nat.one_mul, Int.le_refl, Nat.le_refl, Int.cast_ofNat_Int, Ob.cs]
          · by_cases hlt2 : (b : Int) < B.length
            · have hb1 : IntKind.i64.wrap (b + 1) = ((b + 1 : Nat) : Int) := by rw [wrap_in (by omega) (by omega)]; omega
              by_cases hab : a = b
              · have hab' : ((a : Int) == (b : Int)) = true := beq_int_t (by omega)
                have hsm := bstG_same B T w a
                subst hab
                simp (decide := true) (maxSteps := 4000000) only [go_sem, Nat.reduceAdd, Nat.reduceSub, Nat.reduceMul, Nat.reduceDiv, Nat.reduceMod, Nat.reduceLT, Nat.reduceLeDiff, Nat.reduceEqDiff, Nat.reduceBEq, Nat.reduceBNe, Nat.reduceGT, Int.reduceAdd, Int.reduceSub, Int.reduceMul, Int.reduceNeg, Int.reduceLT, Int.reduceLE, Int.reduceEq, Int.reduceNe, Int.reduceBEq, Int.reduceBNe, Int.reduceToNat, Int.reduceGT, Int.reduceGE, ↓reduceIte, decide_true, decide_false, eq_self, Nat.mul_one, Nat.zero_mul, Nat.one_mul, Int.le_refl, Nat.le_refl, Int.cast_ofNat_Int, hlt2, beq_self_eq_true, Ob.cs]
                refine hI2 _ ⟨a + 1, by omega⟩ (by simp only; omega) ?_
                simp (decide := true) (maxSteps := 4000000) only [go_sem, Nat.reduceAdd, Nat.reduceSub, Nat.reduceMul, Nat.reduceDiv, Nat.reduceMod, Nat.reduceLT, Nat.reduceLeDiff, Nat.reduceEqDiff, Nat.reduceBEq, Nat.reduceBNe, Nat.reduceGT, Int.reduceAdd, Int.reduceSub, Int.reduceMul, Int.reduceNeg, Int.reduceLT, Int.reduceLE, Int.reduceEq, Int.reduceNe, Int.reduceBEq, Int.reduceBNe, Int.reduceToNat, Int.reduceGT, Int.reduceGE, ↓reduceIte, decide_true, decide_false, eq_self, Nat.mul_one, Nat.zero_mul, Nat.one_mul, Int.le_refl, Nat.le_refl, Int.cast_ofNat_Int, hb1, hsm, Ob.cs]
              · have hab' : ((a : Int) == (b : Int)) = false := beq_int_f (by omega)
                have hne : ¬ (a : Int) = b := by omega
                have hsu := bstG_succ B T w hab
                obtain ⟨p, hp⟩ := get_lt hlt
                obtain ⟨q, hq⟩ := get_lt hlt2
                have d1 := flat_at Blank.cs (n := 5) (fun _ => rfl) hp
                have d2 := flat_at Blank.cs (n := 5) (fun _ => rfl) hq
                have z1 := hs'.2.2.1 p (List.mem_of_getElem? hp)
                have z2 := hs'.2.2.1 q (List.mem_of_getElem? hq)
                have wp : IntKind.i64.wrap (p.pr + q.pr) = p.pr + q.pr := wrap_in (by omega) (by omega)
                have hpr := fold_price B T w ((blankAt B (a : Int)).pr + (blankAt B (b : Int)).pr) (obs2 T.length a b) bst0 (fun o ho => obs2_price B ho) (fun h => by cases h)
                change (bstA B T w a b).is = true → (bstA B T w a b).p = _ at hpr
                rw [blankAt_eq hp, blankAt_eq hq] at hpr
                have c1 : (0 ≤ (a : Int) ∧ (a : Int) < B.length) ∧ (0 ≤ (b : Int) ∧ (b : Int) < B.length) := by omega
                obtain ⟨⟨Xo, Xn, Xp, Xi⟩, hX⟩ : ∃ X, bstG B T w a b = X := ⟨_, rfl⟩
                obtain ⟨⟨Yo, Yn, Yp, Yi⟩, hY⟩ : ∃ Y, bstA B T w a b = Y := ⟨_, rfl⟩
                rw [hX, hY] at hsu
                rw [hY] at hpr
                unfold cmb at hsu
                have fin : ∀ Z : Bst, bstG B T w a (b + 1) = Z → True := fun _ _ => trivial
                cases Yi with
                | false =>
                  rw [if_neg (by rintro ⟨h, _⟩; cases h)] at hsu
                  cases Xi <;> simp (decide := true) (maxSteps := 4000000) only [go_sem, Nat.reduceAdd, Nat.reduceSub, Nat.reduceMul, Nat.reduceDiv, Nat.reduceMod, Nat.reduceLT, Nat.reduceLeDiff, Nat.reduceEqDiff, Nat.reduceBEq, Nat.reduceBNe, Nat.reduceGT, Int.reduceAdd, Int.reduceSub, Int.reduceMul, Int.reduceNeg, Int.reduceLT, Int.reduceLE, Int.reduceEq, Int.reduceNe, Int.reduceBEq, Int.reduceBNe, Int.reduceToNat, Int.reduceGT, Int.reduceGE, ↓reduceIte, decide_true, decide_false, eq_self, Nat.mul_one, Nat.zero_mul, Nat.one_mul, Int.le_refl, Nat.le_refl, Int.cast_ofNat_Int, hX, hY, hlt, hlt2, hab', hne, hs, c1, Want.t, Ob.t, Ob.cs, d1, d2, Blank.cs, wp, Int.toNat_natCast]
                  all_goals refine hI2 _ ⟨b + 1, by omega⟩ (by simp only; omega) ?_
                  all_goals simp (decide := true) (maxSteps := 4000000) only [go_sem, Nat.reduceAdd, Nat.reduceSub, Nat.reduceMul, Nat.reduceDiv, Nat.reduceMod, Nat.reduceLT, Nat.reduceLeDiff, Nat.reduceEqDiff, Nat.reduceBEq, Nat.reduceBNe, Nat.reduceGT, Int.reduceAdd, Int.reduceSub, Int.reduceMul, Int.reduceNeg, Int.reduceLT, Int.reduceLE, Int.reduceEq, Int.reduceNe, Int.reduceBEq, Int.reduceBNe, Int.reduceToNat, Int.reduceGT, Int.reduceGE, ↓reduceIte, decide_true, decide_false, eq_self, Nat.mul_one, Nat.zero_mul, Nat.one_mul, Int.le_refl, Nat.le_refl, Int.cast_ofNat_Int, hb1, hsu, Ob.cs]
                | true =>
                  have hpr := hpr rfl
                  simp only at hpr
                  cases Xi with
                  | false =>
                    rw [if_pos ⟨rfl, .inl rfl⟩] at hsu
                    simp (decide := true) (maxSteps := 4000000) only [go_sem, Nat.reduceAdd, Nat.reduceSub, Nat.reduceMul, Nat.reduceDiv, Nat.reduceMod, Nat.reduceLT, Nat.reduceLeDiff, Nat.reduceEqDiff, Nat.reduceBEq, Nat.reduceBNe, Nat.reduceGT, Int.reduceAdd, Int.reduceSub, Int.reduceMul, Int.reduceNeg, Int.reduceLT, Int.reduceLE, Int.reduceEq, Int.reduceNe, Int.reduceBEq, Int.reduceBNe, Int.reduceToNat, Int.reduceGT, Int.reduceGE, ↓reduceIte, decide_true, decide_false, eq_self, Nat.mul_one, Nat.zero_mul, Nat.one_mul, Int.le_refl, Nat.le_refl, Int.cast_ofNat_Int, hX, hY, hlt, hlt2, hab', hne, hs, c1, Want.t, Ob.t, Ob.cs, d1, d2, Blank.cs, wp, Int.toNat_natCast]
                    refine hI2 _ ⟨b + 1, by omega⟩ (by simp only; omega) ?_
                    simp (decide := true) (maxSteps := 4000000) only [go_sem, Nat.reduceAdd, Nat.reduceSub, Nat.reduceMul, Nat.reduceDiv, Nat.reduceMod, Nat.reduceLT, Nat.reduceLeDiff, Nat.reduceEqDiff, Nat.reduceBEq, Nat.reduceBNe, Nat.reduceGT, Int.reduceAdd, Int.reduceSub, Int.reduceMul, Int.reduceNeg, Int.reduceLT, Int.reduceLE, Int.reduceEq, Int.reduceNe, Int.reduceBEq, Int.reduceBNe, Int.reduceToNat, Int.reduceGT, Int.reduceGE, ↓reduceIte, decide_true, decide_false, eq_self, Nat.mul_one, Nat.zero_mul, Nat.one_mul, Int.le_refl, Nat.le_refl, Int.cast_ofNat_Int, hb1, hsu, Ob.cs, hpr]
                  | true =>
                    by_cases h1 : Yn < Xn
                    · rw [if_pos ⟨rfl, .inr (.inl h1)⟩] at hsu
                      simp (decide := true) (maxSteps := 4000000) only [go_sem, Nat.reduceAdd, Nat.reduceSub, Nat.reduceMul, Nat.reduceDiv, Nat.reduceMod, Nat.reduceLT, Nat.reduceLeDiff, Nat.reduceEqDiff, Nat.reduceBEq, Nat.reduceBNe, Nat.reduceGT, Int.reduceAdd, Int.reduceSub, Int.reduceMul, Int.reduceNeg, Int.reduceLT, Int.reduceLE, Int.reduceEq, Int.reduceNe, Int.reduceBEq, Int.reduceBNe, Int.reduceToNat, Int.reduceGT, Int.reduceGE, ↓reduceIte, decide_true, decide_false, eq_self, Nat.mul_one, Nat.zero_mul, Nat.one_mul, Int.le_refl, Nat.le_refl, Int.cast_ofNat_Int, hX, hY, hlt, hlt2, hab', hne, hs, c1, Want.t, Ob.t, Ob.cs, d1, d2, Blank.cs, wp, h1, Int.toNat_natCast]
                      refine hI2 _ ⟨b + 1, by omega⟩ (by simp only; omega) ?_
                      simp (decide := true) (maxSteps := 4000000) only [go_sem, Nat.reduceAdd, Nat.reduceSub, Nat.reduceMul, Nat.reduceDiv, Nat.reduceMod, Nat.reduceLT, Nat.reduceLeDiff, Nat.reduceEqDiff, Nat.reduceBEq, Nat.reduceBNe, Nat.reduceGT, Int.reduceAdd, Int.reduceSub, Int.reduceMul, Int.reduceNeg, Int.reduceLT, Int.reduceLE, Int.reduceEq, Int.reduceNe, Int.reduceBEq, Int.reduceBNe, Int.reduceToNat, Int.reduceGT, Int.reduceGE, ↓reduceIte, decide_true, decide_false, eq_self, Nat.mul_one, Nat.zero_mul, Nat.one_mul, Int.le_refl, Nat.le_refl, Int.cast_ofNat_Int, hb1, hsu, Ob.cs, hpr]
                    · by_cases h2 : Yn = Xn
                      · have h2' : (Yn == Xn) = true := beq_int_t h2
                        by_cases h3 : p.pr + q.pr < Xp
                        · rw [if_pos ⟨rfl, .inr (.inr ⟨h2, by simp only; omega⟩)⟩] at hsu
                          simp (decide := true) (maxSteps := 4000000) only [go_sem, Nat.reduceAdd, Nat.reduceSub, Nat.reduceMul, Nat.reduceDiv, Nat.reduceMod, Nat.reduceLT, Nat.reduceLeDiff, Nat.reduceEqDiff, Nat.reduceBEq, Nat.reduceBNe, Nat.reduceGT, Int.reduceAdd, Int.reduceSub, Int.reduceMul, Int.reduceNeg, Int.reduceLT, Int.reduceLE, Int.reduceEq, Int.reduceNe, Int.reduceBEq, Int.reduceBNe, Int.reduceToNat, Int.reduceGT, Int.reduceGE, ↓reduceIte, decide_true, decide_false, eq_self, Nat.mul_one, Nat.zero_mul, Nat.one_mul, Int.le_refl, Nat.le_refl, Int.cast_ofNat_Int, hX, hY, hlt, hlt2, hab', hne, hs, c1, Want.t, Ob.t, Ob.cs, d1, d2, Blank.cs, wp, h1, h2', h3, Int.toNat_natCast]
                          refine hI2 _ ⟨b + 1, by omega⟩ (by simp only; omega) ?_
                          simp (decide := true) (maxSteps := 4000000) only [go_sem, Nat.reduceAdd, Nat.reduceSub, Nat.reduceMul, Nat.reduceDiv, Nat.reduceMod, Nat.reduceLT, Nat.reduceLeDiff, Nat.reduceEqDiff, Nat.reduceBEq, Nat.reduceBNe, Nat.reduceGT, Int.reduceAdd, Int.reduceSub, Int.reduceMul, Int.reduceNeg, Int.reduceLT, Int.reduceLE, Int.reduceEq, Int.reduceNe, Int.reduceBEq, Int.reduceBNe, Int.reduceToNat, Int.reduceGT, Int.reduceGE, ↓reduceIte, decide_true, decide_false, eq_self, Nat.mul_one, Nat.zero_mul, Nat.one_mul, Int.le_refl, Nat.le_refl, Int.cast_ofNat_Int, hb1, hsu, Ob.cs, hpr]
                        · rw [if_neg (by rintro ⟨_, h | h | h⟩; cases h; exact h1 h; exact h3 (by simp only at h; omega))] at hsu
                          simp (decide := true) (maxSteps := 4000000) only [go_sem, Nat.reduceAdd, Nat.reduceSub, Nat.reduceMul, Nat.reduceDiv, Nat.reduceMod, Nat.reduceLT, Nat.reduceLeDiff, Nat.reduceEqDiff, Nat.reduceBEq, Nat.reduceBNe, Nat.reduceGT, Int.reduceAdd, Int.reduceSub, Int.reduceMul, Int.reduceNeg, Int.reduceLT, Int.reduceLE, Int.reduceEq, Int.reduceNe, Int.reduceBEq, Int.reduceBNe, Int.reduceToNat, Int.reduceGT, Int.reduceGE, ↓reduceIte, decide_true, decide_false, eq_self, Nat.mul_one, Nat.zero_mul, Nat.one_mul, Int.le_refl, Nat.le_refl, Int.cast_ofNat_Int, hX, hY, hlt, hlt2, hab', hne, hs, c1, Want.t, Ob.t, Ob.cs, d1, d2, Blank.cs, wp, h1, h2', h3, Int.toNat_natCast]
                          refine hI2 _ ⟨b + 1, by omega⟩ (by simp only; omega) ?_
                          simp (decide := true) (maxSteps := 4000000) only [go_sem, Nat.reduceAdd, Nat.reduceSub, Nat.reduceMul, Nat.reduceDiv, Nat.reduceMod, Nat.reduceLT, Nat.reduceLeDiff, Nat.reduceEqDiff, Nat.reduceBEq, Nat.reduceBNe, Nat.reduceGT, Int.reduceAdd, Int.reduceSub, Int.reduceMul, Int.reduceNeg, Int.reduceLT, Int.reduceLE, Int.reduceEq, Int.reduceNe, Int.reduceBEq, Int.reduceBNe, Int.reduceToNat, Int.reduceGT, Int.reduceGE, ↓reduceIte, decide_true, decide_false, eq_self, Nat.mul_one, Nat.zero_mul, Nat.one_mul, Int.le_refl, Nat.le_refl, Int.cast_ofNat_Int, hb1, hsu, Ob.cs]
                      · have h2' : (Yn == Xn) = false := beq_int_f h2
                        rw [if_neg (by rintro ⟨_, h | h | h⟩; cases h; exact h1 h; exact h2 h.1)] at hsu
                        simp (decide := true) (maxSteps := 4000000) only [go_sem, Nat.reduceAdd, Nat.reduceSub, Nat.reduceMul, Nat.reduceDiv, Nat.reduceMod, Nat.reduceLT, Nat.reduceLeDiff, Nat.reduceEqDiff, Nat.reduceBEq, Nat.reduceBNe, Nat.reduceGT, Int.reduceAdd, Int.reduceSub, Int.reduceMul, Int.reduceNeg, Int.reduceLT, Int.reduceLE, Int.reduceEq, Int.reduceNe, Int.reduceBEq, Int.reduceBNe, Int.reduceToNat, Int.reduceGT, Int.reduceGE, ↓reduceIte, decide_true, decide_false, eq_self, Nat.mul_one, Nat.zero_mul, Nat.one_mul, Int.le_refl, Nat.le_refl, Int.cast_ofNat_Int, hX, hY, hlt, hlt2, hab', hne, hs, c1, Want.t, Ob.t, Ob.cs, d1, d2, Blank.cs, wp, h1, h2', Int.toNat_natCast]
                        refine hI2 _ ⟨b + 1, by omega⟩ (by simp only; omega) ?_
                        simp (decide := true) (maxSteps := 4000000) only [go_sem, Nat.reduceAdd, Nat.reduceSub, Nat.reduceMul, Nat.reduceDiv, Nat.reduceMod, Nat.reduceLT, Nat.reduceLeDiff, Nat.reduceEqDiff, Nat.reduceBEq, Nat.reduceBNe, Nat.reduceGT, Int.reduceAdd, Int.reduceSub, Int.reduceMul, Int.reduceNeg, Int.reduceLT, Int.reduceLE, Int.reduceEq, Int.reduceNe, Int.reduceBEq, Int.reduceBNe, Int.reduceToNat, Int.reduceGT, Int.reduceGE, ↓reduceIte, decide_true, decide_false, eq_self, Nat.mul_one, Nat.zero_mul, Nat.one_mul, Int.le_refl, Nat.le_refl, Int.cast_ofNat_Int, hb1, hsu, Ob.cs]
            · have hbe : b = B.length := by omega
              subst hbe
              have hnx := bstG_next B T w a
              simp (decide := true) (maxSteps := 4000000) only [go_sem, Nat.reduceAdd, Nat.reduceSub, Nat.reduceMul, Nat.reduceDiv, Nat.reduceMod, Nat.reduceLT, Nat.reduceLeDiff, Nat.reduceEqDiff, Nat.reduceBEq, Nat.reduceBNe, Nat.reduceGT, Int.reduceAdd, Int.reduceSub, Int.reduceMul, Int.reduceNeg, Int.reduceLT, Int.reduceLE, Int.reduceEq, Int.reduceNe, Int.reduceBEq, Int.reduceBNe, Int.reduceToNat, Int.reduceGT, Int.reduceGE, ↓reduceIte, decide_true, decide_false, eq_self, Nat.mul_one, Nat.zero_mul, Nat.one_mul, Int.le_refl, Nat.le_refl, Int.cast_ofNat_Int, hlt2]
              refine hQ2 _ _ ?_
              simp (decide := true) (maxSteps := 4000000) only [go_sem, Nat.reduceAdd, Nat.reduceSub, Nat.reduceMul, Nat.reduceDiv, Nat.reduceMod, Nat.reduceLT, Nat.reduceLeDiff, Nat.reduceEqDiff, Nat.reduceBEq, Nat.reduceBNe, Nat.reduceGT, Int.reduceAdd, Int.reduceSub, Int.reduceMul, Int.reduceNeg, Int.reduceLT, Int.reduceLE, Int.reduceEq, Int.reduceNe, Int.reduceBEq, Int.reduceBNe, Int.reduceToNat, Int.reduceGT, Int.reduceGE, ↓reduceIte, decide_true, decide_false, eq_self, Nat.mul_one, Nat.zero_mul, Nat.one_mul, Int.le_refl, Nat.le_refl, Int.cast_ofNat_Int]
              refine hI1 _ ⟨a + 1, by omega⟩ (by simp only; omega) ?_
              simp (decide := true) (maxSteps := 4000000) only [go_sem, Nat.reduceAdd, Nat.reduceSub, Nat.reduceMul, Nat.reduceDiv, Nat.reduceMod, Nat.reduceLT, Nat.reduceLeDiff, Nat.reduceEqDiff, Nat.reduceBEq, Nat.reduceBNe, Nat.reduceGT, Int.reduceAdd, Int.reduceSub, Int.reduceMul, Int.reduceNeg, Int.reduceLT, Int.reduceLE, Int.reduceEq, Int.reduceNe, Int.reduceBEq, Int.reduceBNe, Int.reduceToNat, Int.reduceGT, Int.reduceGE, ↓reduceIte, decide_true, decide_false, eq_self, Nat.mul_one, Nat.zero_mul, Nat.one_mul, Int.le_refl, Nat.le_refl, Int.cast_ofNat_Int, ha1, hnx, Ob.cs]
        · have hae : a = B.length := by omega
          subst hae
          simp (decide := true) (maxSteps := 4000000) only [go_sem, Nat.reduceAdd, Nat.reduceSub, Nat.reduceMul, Nat.reduceDiv, Nat.reduceMod, Nat.reduceLT, Nat.reduceLeDiff, Nat.reduceEqDiff, Nat.reduceBEq, Nat.reduceBNe, Nat.reduceGT, Int.reduceAdd, Int.reduceSub, Int.reduceMul, Int.reduceNeg, Int.reduceLT, Int.reduceLE, Int.reduceEq, Int.reduceNe, Int.reduceBEq, Int.reduceBNe, Int.reduceToNat, Int.reduceGT, Int.reduceGE, ↓reduceIte, decide_true, decide_false, eq_self, Nat.mul_one, Nat.zero_mul, Nat.one_mul, Int.le_refl, Nat.le_refl, Int.cast_ofNat_Int, hlt]
          refine hQ1 _ _ ?_
          generalize bstG B T w B.length 0 = X
          obtain ⟨Xo, Xn, Xp, Xi⟩ := X
          cases Xi <;> simp (decide := true) (maxSteps := 4000000) only [go_sem, Nat.reduceAdd, Nat.reduceSub, Nat.reduceMul, Nat.reduceDiv, Nat.reduceMod, Nat.reduceLT, Nat.reduceLeDiff, Nat.reduceEqDiff, Nat.reduceBEq, Nat.reduceBNe, Nat.reduceGT, Int.reduceAdd, Int.reduceSub, Int.reduceMul, Int.reduceNeg, Int.reduceLT, Int.reduceLE, Int.reduceEq, Int.reduceNe, Int.reduceBEq, Int.reduceBNe, Int.reduceToNat, Int.reduceGT, Int.reduceGE, ↓reduceIte, decide_true, decide_false, eq_self, Nat.mul_one, Nat.zero_mul, Nat.one_mul, Int.le_refl, Nat.le_refl, Int.cast_ofNat_Int, Ob.t, Ob.cs, bst0]
theorem rBest_ok : ∀ xs r, glBest xs = some r → PCalls Try.prog 26 xs r := by
  intro xs r h
  unfold glBest at h
  split at h
  · split at h
    · rename_i B T hB hT
      split at h
      · rename_i hc; cases h
        exact r4Best_c (rowL_some (un := unBlanks) rfl (@unBlanks_some) hB) (rowL_some (un := unSpans) rfl (@unSpans_some) hT) hc.1 hc.2 ⟨⟨_, _⟩, _⟩
      · cases h
    · cases h
  · cases h
noncomputable def spL3 : Pm.Spec := spI1.one 26 glBest
@[go_sem] theorem spL3_p (f : FuncId) (xs : List TV) : spL3.p f xs = Pm.Spec.p (spI1.one 26 glBest) f xs := rfl
@[go_sem] theorem spL3_h (f : FuncId) (ps : List PV) (hl : List PO) : spL3.h f ps hl = Pm.Spec.h (spI1.one 26 glBest) f ps hl := rfl
@[go_sem] theorem spL3_fz (f : FuncId) : spL3.fz f = Pm.Spec.fz (spI1.one 26 glBest) f := rfl
@[go_sem] theorem spL3_fr (f : FuncId) : spL3.fr f = Pm.Spec.fr (spI1.one 26 glBest) f := rfl
@[go_sem] theorem spL3_mu (t : TypeId) : spL3.mu t = Pm.Spec.mu (spI1.one 26 glBest) t := rfl
theorem spL3_ok : SpecOk Try.prog spL3 := Spec.one_ok rBest_ok spI1_ok
theorem GlassChooses_c {B : List Blank} {T : List Span} {sB sT : TV} (hB : IsRow Blank.cs sB B) (hT : IsRow Span.cs sT T) (hlB : B.length ≤ 5864062014806) (hlT : T.length ≤ 9000000000000) (w : Want) (o : Ob) : PCalls Try.prog 4 [.agg [sB, sT], w.t, o.t] (.bool true) := by
  have rB := rowB_is hB
  have rT := rowT_is hT
  unfold rowL at rB rT
  refine pcalls_by Try.mixes spL3_ok (fn := Try.f4) Try.func4 rfl (by kernel_rfl) (by show 3 ≤ _; decide) ?_
  simp (decide := true) (maxSteps := 4000000) only [go_sem, Nat.reduceAdd, Nat.reduceSub, Nat.reduceMul, Nat.reduceDiv, Nat.reduceMod, Nat.reduceLT, Nat.reduceLeDiff, Nat.reduceEqDiff, Nat.reduceBEq, Nat.reduceBNe, Nat.reduceGT, Int.reduceAdd, Int.reduceSub, Int.reduceMul, Int.reduceNeg, Int.reduceLT, Int.reduceLE, Int.reduceEq, Int.reduceNe, Int.reduceBEq, Int.reduceBNe, Int.reduceToNat, Int.reduceGT, Int.reduceGE, ↓reduceIte, decide_true, decide_false, eq_self, Nat.mul_one, Nat.zero_mul, Nat.one_mul, Int.le_refl, Nat.le_refl, Int.cast_ofNat_Int, Try.f4, Ob.t, Ob.cs, Want.t, rB, rT, hlB, hlT, bne_self_eq_false, beq_self_eq_true, Bool.and_self]
end Go.Proofs.Ytcjcnmpecmbdeaa

/- Part Gna. -/
namespace Go.Oc
open Go Go.Pm
def updI (g : Int → Int) (t v : Int) : Int → Int := fun i => if i = t then v else g i
theorem updI_same (g : Int → Int) (t v : Int) : updI g t v t = v := by unfold updI; rw [if_pos rfl]
/-- What both lenses do is affine in the curvature of a tool. -/
theorem pw_upd (n1 n2 : Int) (o : Ob) (g : Int → Int) (t : Int) : ∃ A : Int, ∀ v, pw n1 n2 (updI g t v o.a) (updI g t v o.b) (updI g t v o.c) - pw n1 n2 (g o.a) (g o.b) (g o.c) = A * v - A * g t := by
  refine ⟨(if o.a = t then n1 else 0) + (if o.b = t then n2 - n1 else 0) - (if o.c = t then n2 else 0), fun v => ?_⟩
  unfold pw updI
  by_cases h1 : o.a = t <;> by_cases h2 : o.b = t <;> by_cases h3 : o.c = t <;> simp only [h1, h2, h3, if_true, if_false, Int.mul_sub, Int.sub_mul, Int.add_mul, Int.zero_mul] <;> omega
theorem pw_low (n1 n2 : Int) {T : List Span} (o : Ob) (g : Int → Int) (t : Int) (h : (toolAt T t).lo ≤ g t ∧ g t ≤ (toolAt T t).hi) :
    (∃ b, pw n1 n2 (updI g t (endS (toolAt T t) b) o.a) (updI g t (endS (toolAt T t) b) o.b) (updI g t (endS (toolAt T t) b) o.c) ≤ pw n1 n2 (g o.a) (g o.b) (g o.c)) ∧
    ∃ b, pw n1 n2 (g o.a) (g o.b) (g o.c) ≤ pw n1 n2 (updI g t (endS (toolAt T t) b) o.a) (updI g t (endS (toolAt T t) b) o.b) (updI g t (endS (toolAt T t) b) o.c) := by
  obtain ⟨A, hA⟩ := pw_upd n1 n2 o g t
  obtain ⟨⟨b, hb⟩, c, hc⟩ := affine_ends (A := A) h
  exact ⟨⟨b, by have := hA (endS (toolAt T t) b); omega⟩, c, by have := hA (endS (toolAt T t) c); omega⟩
theorem pw_n1 {s : Span} {n1 n2 x y z : Int} (h : s.lo ≤ n1 ∧ n1 ≤ s.hi) : (∃ b, pw (endS s b) n2 x y z ≤ pw n1 n2 x y z) ∧ ∃ b, pw n1 n2 x y z ≤ pw (endS s b) n2 x y z := by
  obtain ⟨⟨b, hb⟩, c, hc⟩ := affine_ends (A := x - y) h
  unfold pw
  rw [Int.mul_comm n1]
  refine ⟨⟨b, ?_⟩, c, ?_⟩
  · rw [Int.mul_comm (endS s b)]; omega
  · rw [Int.mul_comm (endS s c)]; omega
theorem pw_n2 {s : Span} {n1 n2 x y z : Int} (h : s.lo ≤ n2 ∧ n2 ≤ s.hi) : (∃ b, pw n1 (endS s b) x y z ≤ pw n1 n2 x y z) ∧ ∃ b, pw n1 n2 x y z ≤ pw n1 (endS s b) x y z := by
  obtain ⟨⟨b, hb⟩, c, hc⟩ := affine_ends (A := y - z) h
  unfold pw
  rw [Int.mul_comm n2]
  refine ⟨⟨b, ?_⟩, c, ?_⟩
  · rw [Int.mul_comm (endS s b)]; omega
  · rw [Int.mul_comm (endS s c)]; omega
/-- The curvatures of three tools at ends, one after the other. -/
theorem ends3 (T : List Span) (o : Ob) (g : Int → Int) (b1 b2 b3 : Bool) (s1 s2 : Span) (hi hj : Bool) :
    pw (endS s1 hi) (endS s2 hj) (updI (updI (updI g o.a (endS (toolAt T o.a) b1)) o.b (endS (toolAt T o.b) b2)) o.c (endS (toolAt T o.c) b3) o.a) (updI (updI (updI g o.a (endS (toolAt T o.a) b1)) o.b (endS (toolAt T o.b) b2)) o.c (endS (toolAt T o.c) b3) o.b) (updI (updI (updI g o.a (endS (toolAt T o.a) b1)) o.b (endS (toolAt T o.b) b2)) o.c (endS (toolAt T o.c) b3) o.c) =
    endV s1 s2 T o hi hj (fun t => if t = o.c then b3 else if t = o.b then b2 else b1) := by
  unfold endV updI
  by_cases h1 : o.a = o.c <;> by_cases h2 : o.b = o.c <;> by_cases h3 : o.a = o.b <;> simp only [h1, h2, h3, if_true, if_false]
theorem pw_between {s1 s2 : Span} {T : List Span} {o : Ob} {n1 n2 : Int} {g : Int → Int} (h1 : s1.lo ≤ n1 ∧ n1 ≤ s1.hi) (h2 : s2.lo ≤ n2 ∧ n2 ≤ s2.hi)
    (ha : (toolAt T o.a).lo ≤ g o.a ∧ g o.a ≤ (toolAt T o.a).hi) (hb : (toolAt T o.b).lo ≤ g o.b ∧ g o.b ≤ (toolAt T o.b).hi) (hc : (toolAt T o.c).lo ≤ g o.c ∧ g o.c ≤ (toolAt T o.c).hi) :
    (minmax (corners s1 s2 (toolAt T o.a) (toolAt T o.b) (toolAt T o.c) o 32)).lo ≤ pw n1 n2 (g o.a) (g o.b) (g o.c) ∧ pw n1 n2 (g o.a) (g o.b) (g o.c) ≤ (minmax (corners s1 s2 (toolAt T o.a) (toolAt T o.b) (toolAt T o.c) o 32)).hi := by
  have hu : ∀ (g : Int → Int) (t u : Int) (b : Bool), ((toolAt T u).lo ≤ g u ∧ g u ≤ (toolAt T u).hi) → ((toolAt T t).lo ≤ g t ∧ g t ≤ (toolAt T t).hi) → (toolAt T u).lo ≤ updI g t (endS (toolAt T t) b) u ∧ updI g t (endS (toolAt T t) b) u ≤ (toolAt T u).hi := by
    intro g t u b hu ht
    unfold updI
    split
    · rename_i h; subst h; exact endS_mem (by omega) b
    · exact hu
  constructor
  · obtain ⟨bi, l1⟩ := (pw_n1 (n2 := n2) (x := g o.a) (y := g o.b) (z := g o.c) h1).1
    obtain ⟨bj, l2⟩ := (pw_n2 (n1 := endS s1 bi) (x := g o.a) (y := g o.b) (z := g o.c) h2).1
    obtain ⟨b1, l3⟩ := (pw_low (endS s1 bi) (endS s2 bj) o g o.a ha).1
    have hb' := hu g o.a o.b b1 hb ha
    have hc' := hu g o.a o.c b1 hc ha
    obtain ⟨b2, l4⟩ := (pw_low (endS s1 bi) (endS s2 bj) o _ o.b hb').1
    have hc'' := hu _ o.b o.c b2 hc' hb'
    obtain ⟨b3, l5⟩ := (pw_low (endS s1 bi) (endS s2 bj) o _ o.c hc'').1
    rw [ends3] at l5
    refine Int.le_trans ?_ (Int.le_trans l5 (Int.le_trans l4 (Int.le_trans l3 (Int.le_trans l2 l1))))
    exact (minmax_le ((corner_iff s1 s2 T o _).2 ⟨bi, bj, _, rfl⟩)).1
  · obtain ⟨bi, l1⟩ := (pw_n1 (n2 := n2) (x := g o.a) (y := g o.b) (z := g o.c) h1).2
    obtain ⟨bj, l2⟩ := (pw_n2 (n1 := endS s1 bi) (x := g o.a) (y := g o.b) (z := g o.c) h2).2
    obtain ⟨b1, l3⟩ := (pw_low (endS s1 bi) (endS s2 bj) o g o.a ha).2
    have hb' := hu g o.a o.b b1 hb ha
    have hc' := hu g o.a o.c b1 hc ha
    obtain ⟨b2, l4⟩ := (pw_low (endS s1 bi) (endS s2 bj) o _ o.b hb').2
    have hc'' := hu _ o.b o.c b2 hc' hb'
    obtain ⟨b3, l5⟩ := (pw_low (endS s1 bi) (endS s2 bj) o _ o.c hc'').2
    rw [ends3] at l5
    refine Int.le_trans l1 (Int.le_trans l2 (Int.le_trans l3 (Int.le_trans l4 (Int.le_trans l5 ?_))))
    exact (minmax_le ((corner_iff s1 s2 T o _).2 ⟨bi, bj, _, rfl⟩)).2
/-- What is seen of an objective in a truth lies in its spans. -/
theorem seen_in {B : List Blank} {T : List Span} {o : Ob} (ho : obOk B.length T.length o = true) {ix co cu : List Int} (ht : truthOk B T ix co cu = true) :
    ((spansP B T o).p.lo ≤ pw (nth ix o.f) (nth ix o.s) (nth cu o.a) (nth cu o.b) (nth cu o.c) ∧ pw (nth ix o.f) (nth ix o.s) (nth cu o.a) (nth cu o.b) (nth cu o.c) ≤ (spansP B T o).p.hi) ∧
    (spansP B T o).c.lo ≤ pw (nth co o.f) (nth co o.s) (nth cu o.a) (nth cu o.b) (nth cu o.c) ∧ pw (nth co o.f) (nth co o.s) (nth cu o.a) (nth cu o.b) (nth cu o.c) ≤ (spansP B T o).c.hi := by
  have ho' := obOk_iff.1 ho
  unfold truthOk at ht
  simp only [Bool.and_eq_true] at ht
  have tB : ∀ i : Int, 0 ≤ i → i ≤ (B.length : Int) - 1 → ((blankAt B i).i.lo ≤ nth ix i ∧ nth ix i ≤ (blankAt B i).i.hi) ∧ (blankAt B i).c.lo ≤ nth co i ∧ nth co i ≤ (blankAt B i).c.hi := by
    intro i h0 h1
    obtain ⟨k, rfl⟩ := Int.eq_ofNat_of_zero_le h0
    exact tOkB_at ht.2.1 (by omega)
  have tT : ∀ i : Int, 0 ≤ i → i ≤ (T.length : Int) - 1 → (toolAt T i).lo ≤ nth cu i ∧ nth cu i ≤ (toolAt T i).hi := by
    intro i h0 h1
    obtain ⟨k, rfl⟩ := Int.eq_ofNat_of_zero_le h0
    exact tOkT_at ht.2.2 (by omega)
  have f := tB o.f ho'.1.1 ho'.1.2
  have s := tB o.s ho'.2.1.1 ho'.2.1.2
  have a := tT o.a ho'.2.2.2.1.1 ho'.2.2.2.1.2
  have b := tT o.b ho'.2.2.2.2.1.1 ho'.2.2.2.2.1.2
  have c := tT o.c ho'.2.2.2.2.2.1 ho'.2.2.2.2.2.2
  exact ⟨pw_between f.1 s.1 a b c, pw_between f.2 s.2 a b c⟩

/-- The element of a list that a number chooses. -/
def pickI (l : List Int) (n : Int) : Int := if l.length = 0 then 0 else nth l (n % l.length)
/-- A truth of a stock, as numbers choose it. -/
def chIx (B : List Blank) (bits : List Int) (k : Nat) : List Int := (List.range k).map fun (i : Nat) => chosen (blankAt B i).i.lo (blankAt B i).i.hi (pickI bits (2 * i))
def chCo (B : List Blank) (bits : List Int) (k : Nat) : List Int := (List.range k).map fun (i : Nat) => chosen (blankAt B i).c.lo (blankAt B i).c.hi (pickI bits (2 * i + 1))
def chCu (T : List Span) (bits : List Int) (k : Nat) : List Int := (List.range k).map fun (i : Nat) => chosen (toolAt T i).lo (toolAt T i).hi (pickI bits (i + 5))
theorem chIx_succ (B : List Blank) (bits : List Int) (k : Nat) : chIx B bits (k + 1) = chIx B bits k ++ [chosen (blankAt B k).i.lo (blankAt B k).i.hi (pickI bits (2 * k))] := by unfold chIx; rw [List.range_succ, List.map_append]; rfl
theorem chCo_succ (B : List Blank) (bits : List Int) (k : Nat) : chCo B bits (k + 1) = chCo B bits k ++ [chosen (blankAt B k).c.lo (blankAt B k).c.hi (pickI bits (2 * k + 1))] := by unfold chCo; rw [List.range_succ, List.map_append]; rfl
theorem chCu_succ (T : List Span) (bits : List Int) (k : Nat) : chCu T bits (k + 1) = chCu T bits k ++ [chosen (toolAt T k).lo (toolAt T k).hi (pickI bits (k + 5))] := by unfold chCu; rw [List.range_succ, List.map_append]; rfl
theorem chIx_len (B : List Blank) (bits : List Int) (k : Nat) : (chIx B bits k).length = k := by simp [chIx]
theorem chCo_len (B : List Blank) (bits : List Int) (k : Nat) : (chCo B bits k).length = k := by simp [chCo]
theorem chCu_len (T : List Span) (bits : List Int) (k : Nat) : (chCu T bits k).length = k := by simp [chCu]
theorem nth_mapN {n : Nat} {f : Nat → Int} {i : Nat} (h1 : i < n) : nth ((List.range n).map f) (i : Int) = f i := by
  refine nth_eq ?_
  rw [List.getElem?_map, List.getElem?_range h1]; rfl
theorem chosen_truth {B : List Blank} {T : List Span} (hs : stockOk B T = true) (bits : List Int) : truthOk B T (chIx B bits B.length) (chCo B bits B.length) (chCu T bits T.length) = true := by
  unfold truthOk tOkB tOkT
  rw [chIx_len, chCo_len, chCu_len]
  simp only [beq_self_eq_true, Bool.and_self, Bool.true_and, Bool.and_eq_true, List.all_eq_true, List.mem_range, inB_iff]
  refine ⟨fun i hi => ?_, fun i hi => ?_⟩
  · have := blank_ok hs (i := i) (by omega) (by omega)
    unfold chIx chCo
    rw [nth_mapN hi, nth_mapN hi]
    exact ⟨chosen_mem _ this.1.2.1, chosen_mem _ this.2.1.2.1⟩
  · have := tool_ok hs (i := i) (by omega) (by omega)
    unfold chCu
    rw [nth_mapN hi]
    exact chosen_mem _ this.2.1

/-- An objective that is turned round. -/
def turnO (o : Ob) : Ob := ⟨o.s, o.f, o.c, o.b, o.a⟩
theorem turn_ok {n m : Int} (o : Ob) : obOk n m (turnO o) = obOk n m o := by
  rw [Bool.eq_iff_iff, obOk_iff, obOk_iff]
  unfold turnO
  simp only
  constructor <;> (rintro ⟨a, b, c, d, e, f⟩; exact ⟨b, a, fun h => c h.symm, f, e, d⟩)
theorem pw_turn (n1 n2 x y z : Int) : pw n2 n1 z y x = -pw n1 n2 x y z := by
  unfold pw
  simp only [Int.mul_sub]; omega
theorem corner_turn (s1 s2 : Span) (T : List Span) (o : Ob) : minmax (corners s2 s1 (toolAt T (turnO o).a) (toolAt T (turnO o).b) (toolAt T (turnO o).c) (turnO o) 32) = ⟨-(minmax (corners s1 s2 (toolAt T o.a) (toolAt T o.b) (toolAt T o.c) o 32)).hi, -(minmax (corners s1 s2 (toolAt T o.a) (toolAt T o.b) (toolAt T o.c) o 32)).lo⟩ := by
  have hv : ∀ hi hj g, endV s2 s1 T (turnO o) hj hi g = -endV s1 s2 T o hi hj g := fun hi hj g => pw_turn ..
  have n1 := corners_ne s1 s2 (toolAt T o.a) (toolAt T o.b) (toolAt T o.c) o
  have n2 := corners_ne s2 s1 (toolAt T (turnO o).a) (toolAt T (turnO o).b) (toolAt T (turnO o).c) (turnO o)
  obtain ⟨a1, a2⟩ := minmax_mem n1
  obtain ⟨b1, b2⟩ := minmax_mem n2
  have key1 : ∀ v, v ∈ corners s1 s2 (toolAt T o.a) (toolAt T o.b) (toolAt T o.c) o 32 → -v ∈ corners s2 s1 (toolAt T (turnO o).a) (toolAt T (turnO o).b) (toolAt T (turnO o).c) (turnO o) 32 := by
    intro v h
    obtain ⟨hi, hj, g, rfl⟩ := (corner_iff ..).1 h
    exact (corner_iff ..).2 ⟨hj, hi, g, (hv hi hj g).symm⟩
  have key2 : ∀ v, v ∈ corners s2 s1 (toolAt T (turnO o).a) (toolAt T (turnO o).b) (toolAt T (turnO o).c) (turnO o) 32 → -v ∈ corners s1 s2 (toolAt T o.a) (toolAt T o.b) (toolAt T o.c) o 32 := by
    intro v h
    obtain ⟨hi, hj, g, rfl⟩ := (corner_iff ..).1 h
    exact (corner_iff ..).2 ⟨hj, hi, g, by rw [hv hj hi g]; omega⟩
  have c1 := minmax_le (key1 _ a1)
  have c2 := minmax_le (key1 _ a2)
  have d1 := minmax_le (key2 _ b1)
  have d2 := minmax_le (key2 _ b2)
  generalize minmax (corners s1 s2 (toolAt T o.a) (toolAt T o.b) (toolAt T o.c) o 32) = X at c1 c2 d1 d2 ⊢
  generalize minmax (corners s2 s1 (toolAt T (turnO o).a) (toolAt T (turnO o).b) (toolAt T (turnO o).c) (turnO o) 32) = Y at c1 c2 d1 d2 ⊢
  obtain ⟨y1, y2⟩ := Y
  simp only at c1 c2 d1 d2 ⊢
  rw [show y1 = -X.hi by omega, show y2 = -X.lo by omega]
theorem spans_turn (B : List Blank) (T : List Span) (o : Ob) : spansP B T (turnO o) = ⟨⟨-(spansP B T o).p.hi, -(spansP B T o).p.lo⟩, ⟨-(spansP B T o).c.hi, -(spansP B T o).c.lo⟩⟩ := by
  unfold spansP
  rw [show (turnO o).f = o.s from rfl, show (turnO o).s = o.f from rfl, corner_turn, corner_turn]
theorem corner_thrice (s1 s2 : Span) (T : List Span) (f s t : Int) : minmax (corners s1 s2 (toolAt T t) (toolAt T t) (toolAt T t) ⟨f, s, t, t, t⟩ 32) = ⟨0, 0⟩ := by
  obtain ⟨a1, a2⟩ := minmax_mem (corners_ne s1 s2 (toolAt T t) (toolAt T t) (toolAt T t) ⟨f, s, t, t, t⟩)
  have key : ∀ v, v ∈ corners s1 s2 (toolAt T t) (toolAt T t) (toolAt T t) ⟨f, s, t, t, t⟩ 32 → v = 0 := by
    intro v h
    obtain ⟨hi, hj, g, rfl⟩ := (corner_iff s1 s2 T ⟨f, s, t, t, t⟩ v).1 h
    unfold endV pw
    simp
  have e1 := key _ a1
  have e2 := key _ a2
  generalize minmax (corners s1 s2 (toolAt T t) (toolAt T t) (toolAt T t) ⟨f, s, t, t, t⟩ 32) = X at e1 e2 ⊢
  obtain ⟨x, y⟩ := X
  simp only at e1 e2
  rw [e1, e2]
theorem spans_thrice (B : List Blank) (T : List Span) (f s t : Int) : spansP B T ⟨f, s, t, t, t⟩ = ⟨⟨0, 0⟩, ⟨0, 0⟩⟩ := by
  unfold spansP
  simp only
  rw [corner_thrice, corner_thrice]
end Go.Oc

/- Part Gnb. -/
namespace Go.Proofs.Ytcjcnmpecmbdeaa
open Go.RowKit Go.Pm Go.Oc
set_option maxRecDepth 100000
set_option linter.unusedVariables false
set_option maxHeartbeats 4000000

theorem Pick_c {l : List Int} {s : TV} (hs : IsRow ic s l) (hl : l.length ≤ 9223372036854775806) (n : Int) : PCalls Try.prog 43 [s, .int .i64 n] (.int .i64 (pickI l n)) := by
  have hI := rowI_is hs
  refine pcalls_by Try.mixes spB1_ok (fn := Try.f43) Try.func43 rfl (by kernel_rfl) (by show 2 ≤ _; decide) ?_
  unfold pickI
  by_cases h0 : l.length = 0
  · have h0' : ((l.length : Int) == 0) = true := beq_int_t (by omega)
    rcases hs with ⟨rfl, rfl⟩ | ⟨full, rfl⟩ <;> simp (decide := true) (maxSteps := 4000000) only [go_sem, Nat.reduceAdd, Nat.reduceSub, Nat.reduceMul, Nat.reduceDiv, Nat.reduceMod, Nat.reduceLT, Nat.reduceLeDiff, Nat.reduceEqDiff, Nat.reduceBEq, Nat.reduceBNe, Nat.reduceGT, Int.reduceAdd, Int.reduceSub, Int.reduceMul, Int.reduceNeg, Int.reduceLT, Int.reduceLE, Int.reduceEq, Int.reduceNe, Int.reduceBEq, Int.reduceBNe, Int.reduceToNat, Int.reduceGT, Int.reduceGE, ↓reduceIte, decide_true, decide_false, eq_self, Nat.mul_one, Nat.zero_mul, Nat.one_mul, Int.le_refl, Nat.le_refl, Int.cast_ofNat_Int, Try.f43, h0, h0', List.length_nil]
  · have h0' : ((l.length : Int) == 0) = false := beq_int_f (by omega)
    obtain ⟨full, rfl⟩ := hs.ne (by omega)
    have hc : 0 < (l.length : Int) ∧ (l.length : Int) ≤ 9223372036854775807 := by omega
    have m1 := Int.emod_nonneg n (show (l.length : Int) ≠ 0 by omega)
    have m2 := Int.emod_lt_of_pos n (show 0 < (l.length : Int) by omega)
    obtain ⟨k, hk⟩ := Int.eq_ofNat_of_zero_le m1
    rw [hk] at m2
    obtain ⟨x, hx⟩ := get_lt m2
    have d := flat_at ic (n := 1) (fun _ => rfl) hx
    rw [Nat.mul_one] at d
    simp (decide := true) (maxSteps := 4000000) only [go_sem, Nat.reduceAdd, Nat.reduceSub, Nat.reduceMul, Nat.reduceDiv, Nat.reduceMod, Nat.reduceLT, Nat.reduceLeDiff, Nat.reduceEqDiff, Nat.reduceBEq, Nat.reduceBNe, Nat.reduceGT, Int.reduceAdd, Int.reduceSub, Int.reduceMul, Int.reduceNeg, Int.reduceLT, Int.reduceLE, Int.reduceEq, Int.reduceNe, Int.reduceBEq, Int.reduceBNe, Int.reduceToNat, Int.reduceGT, Int.reduceGE, ↓reduceIte, decide_true, decide_false, eq_self, Nat.mul_one, Nat.zero_mul, Nat.one_mul, Int.le_refl, Nat.le_refl, Int.cast_ofNat_Int, Try.f43, h0, h0', hc, hk, m2, d, ic, Int.toNat_natCast, nth_eq hx]
noncomputable def gPick : List TV → Option TV
  | [s, .int .i64 n] => match rowL unI s with
    | some l => if l.length ≤ 9223372036854775806 then some (.int .i64 (pickI l n)) else none
    | none => none
  | _ => none
theorem gPick_ok : ∀ xs r, gPick xs = some r → PCalls Try.prog 43 xs r := by
  intro xs r h
  unfold gPick at h
  split at h
  · split at h
    · rename_i l hl
      split at h
      · rename_i hc; cases h
        exact Pick_c (rowL_some (un := unI) rfl (@unI_some) hl) hc _
      · cases h
    · cases h
  · cases h
attribute [go_sem] gPick
noncomputable def spN1 : Pm.Spec := spI1.one 43 gPick
@[go_sem] theorem spN1_p (f : FuncId) (xs : List TV) : spN1.p f xs = Pm.Spec.p (spI1.one 43 gPick) f xs := rfl
@[go_sem] theorem spN1_h (f : FuncId) (ps : List PV) (hl : List PO) : spN1.h f ps hl = Pm.Spec.h (spI1.one 43 gPick) f ps hl := rfl
@[go_sem] theorem spN1_fz (f : FuncId) : spN1.fz f = Pm.Spec.fz (spI1.one 43 gPick) f := rfl
@[go_sem] theorem spN1_fr (f : FuncId) : spN1.fr f = Pm.Spec.fr (spI1.one 43 gPick) f := rfl
@[go_sem] theorem spN1_mu (t : TypeId) : spN1.mu t = Pm.Spec.mu (spI1.one 43 gPick) t := rfl
theorem spN1_ok : SpecOk Try.prog spN1 := Spec.one_ok gPick_ok spI1_ok
theorem oChosen_c {B : List Blank} {T : List Span} (fB fT : Bool) (hs : stockOk B T = true) {bits : List Int} {s : TV} (hb : IsRow ic s bits) (hlb : bits.length ≤ 9223372036854775806) : PCalls Try.prog 33 [.agg [.sl (B.flatMap Blank.cs) B.length fB, .sl (T.flatMap Span.cs) T.length fT], s]
    (.agg [.sl (ints (chIx B bits B.length)) B.length false, .sl (ints (chCo B bits B.length)) B.length false, .sl (ints (chCu T bits T.length)) T.length false]) := by
  have hs' := stockOk_iff.1 hs
  have rI := rowI_is hb
  unfold rowL at rI
  refine pcalls_by Try.mixes spN1_ok (fn := Try.f33) Try.func33 rfl (by kernel_rfl) (by show 2 ≤ _; decide) ?_
  simp (decide := true) (maxSteps := 4000000) only [go_sem, Nat.reduceAdd, Nat.reduceSub, Nat.reduceMul, Nat.reduceDiv, Nat.reduceMod, Nat.reduceLT, Nat.reduceLeDiff, Nat.reduceEqDiff, Nat.reduceBEq, Nat.reduceBNe, Nat.reduceGT, Int.reduceAdd, Int.reduceSub, Int.reduceMul, Int.reduceNeg, Int.reduceLT, Int.reduceLE, Int.reduceEq, Int.reduceNe, Int.reduceBEq, Int.reduceBNe, Int.reduceToNat, Int.reduceGT, Int.reduceGE, ↓reduceIte, decide_true, decide_false, eq_self, Nat.mul_one, Nat.zero_mul, Nat.one_mul, Int.le_refl, Nat.le_refl, Int.cast_ofNat_Int, Try.f33]
  refine pwpC_loopU (A := { k : Nat // k ≤ B.length }) [1, 2, 4, 5] (fun k => [(6, .t (.int .i64 k.1))]) (fun k => [(2, .box [.own (ints (chIx B bits k.1)) k.1 3, .own (ints (chCo B bits k.1)) k.1 4, .t .nilSl]), (3, .tok k.1 3), (4, .tok k.1 3)]) (fun k => B.length - k.1) ⟨0, by omega⟩ (by decide) (fun _ => by rfl) ?_ fun Q1 hQ1 ⟨k, hk⟩ I1 hI1 => ?_
  · simp (decide := true) (maxSteps := 4000000) only [go_sem, Nat.reduceAdd, Nat.reduceSub, Nat.reduceMul, Nat.reduceDiv, Nat.reduceMod, Nat.reduceLT, Nat.reduceLeDiff, Nat.reduceEqDiff, Nat.reduceBEq, Nat.reduceBNe, Nat.reduceGT, Int.reduceAdd, Int.reduceSub, Int.reduceMul, Int.reduceNeg, Int.reduceLT, Int.reduceLE, Int.reduceEq, Int.reduceNe, Int.reduceBEq, Int.reduceBNe, Int.reduceToNat, Int.reduceGT, Int.reduceGE, ↓reduceIte, decide_true, decide_false, eq_self, Nat.mul_one, Nat.zero_mul, Nat.one_mul, Int.le_refl, Nat.le_refl, Int.cast_ofNat_Int, chIx, chCo, List.range_zero, List.map_nil, ints]
    first | done | exact ⟨rfl, rfl⟩
  · by_cases hlt : (k : Int) < B.length
    · obtain ⟨x, hx⟩ := get_lt hlt
      have hd := flat_at Blank.cs (n := 5) (fun _ => rfl) hx
      have hc1 : IntKind.i64.wrap (k + 1) = ((k + 1 : Nat) : Int) := by rw [wrap_in (by omega) (by omega)]; omega
      have w1 : IntKind.i64.wrap (2 * k) = 2 * (k : Int) := wrap_in (by omega) (by omega)
      have w2 : IntKind.i64.wrap (2 * (k : Int) + 1) = 2 * (k : Int) + 1 := wrap_in (by omega) (by omega)
      have z := hs'.2.2.1 x (List.mem_of_getElem? hx)
      have q1 : (-9223372036854775808 ≤ x.i.lo ∧ x.i.lo ≤ 9223372036854775807) ∧ -9223372036854775808 ≤ x.i.hi ∧ x.i.hi ≤ 9223372036854775807 := by omega
      have q2 : (-9223372036854775808 ≤ x.c.lo ∧ x.c.lo ≤ 9223372036854775807) ∧ -9223372036854775808 ≤ x.c.hi ∧ x.c.hi ≤ 9223372036854775807 := by omega
      have s1 := chIx_succ B bits k
      have s2 := chCo_succ B bits k
      rw [blankAt_eq hx] at s1 s2
      have el1 : (ints (chIx B bits k)).length = k := by rw [ints_len, chIx_len]
      have el2 : (ints (chCo B bits k)).length = k := by rw [ints_len, chCo_len]
      have hroom : (k + 1) * 8 ≤ 140737488355328 := by omega
      have hk8 : (k : Int) < 8 := by omega
      simp (decide := true) (maxSteps := 4000000) only [go_sem, Nat.reduceAdd, Nat.reduceSub, Nat.reduceMul, Nat.reduceDiv, Nat.reduceMod, Nat.reduceLT, Nat.reduceLeDiff, Nat.reduceEqDiff, Nat.reduceBEq, Nat.reduceBNe, Nat.reduceGT, Int.reduceAdd, Int.reduceSub, Int.reduceMul, Int.reduceNeg, Int.reduceLT, Int.reduceLE, Int.reduceEq, Int.reduceNe, Int.reduceBEq, Int.reduceBNe, Int.reduceToNat, Int.reduceGT, Int.reduceGE, ↓reduceIte, decide_true, decide_false, eq_self, Nat.mul_one, Nat.zero_mul, Nat.one_mul, Int.le_refl, Nat.le_refl, Int.cast_ofNat_Int, hlt, hk8, hd, Blank.cs, el1, el2, hroom, rI, hlb, w1, w2, q1, q2, Int.toNat_natCast]
      refine hI1 _ ⟨k + 1, by omega⟩ (by simp only; omega) ?_
      simp (decide := true) (maxSteps := 4000000) only [go_sem, Nat.reduceAdd, Nat.reduceSub, Nat.reduceMul, Nat.reduceDiv, Nat.reduceMod, Nat.reduceLT, Nat.reduceLeDiff, Nat.reduceEqDiff, Nat.reduceBEq, Nat.reduceBNe, Nat.reduceGT, Int.reduceAdd, Int.reduceSub, Int.reduceMul, Int.reduceNeg, Int.reduceLT, Int.reduceLE, Int.reduceEq, Int.reduceNe, Int.reduceBEq, Int.reduceBNe, Int.reduceToNat, Int.reduceGT, Int.reduceGE, ↓reduceIte, decide_true, decide_false, eq_self, Nat.mul_one, Nat.zero_mul, Nat.one_mul, Int.le_refl, Nat.le_refl, Int.cast_ofNat_Int, hc1, s1, s2, ints_snoc']
    · have hke : k = B.length := by omega
      subst hke
      simp (decide := true) (maxSteps := 4000000) only [go_sem, Nat.reduceAdd, Nat.reduceSub, Nat.reduceMul, Nat.reduceDiv, Nat.reduceMod, Nat.reduceLT, Nat.reduceLeDiff, Nat.reduceEqDiff, Nat.reduceBEq, Nat.reduceBNe, Nat.reduceGT, Int.reduceAdd, Int.reduceSub, Int.reduceMul, Int.reduceNeg, Int.reduceLT, Int.reduceLE, Int.reduceEq, Int.reduceNe, Int.reduceBEq, Int.reduceBNe, Int.reduceToNat, Int.reduceGT, Int.reduceGE, ↓reduceIte, decide_true, decide_false, eq_self, Nat.mul_one, Nat.zero_mul, Nat.one_mul, Int.le_refl, Nat.le_refl, Int.cast_ofNat_Int, hlt]
      refine hQ1 _ _ ?_
      simp (decide := true) (maxSteps := 4000000) only [go_sem, Nat.reduceAdd, Nat.reduceSub, Nat.reduceMul, Nat.reduceDiv, Nat.reduceMod, Nat.reduceLT, Nat.reduceLeDiff, Nat.reduceEqDiff, Nat.reduceBEq, Nat.reduceBNe, Nat.reduceGT, Int.reduceAdd, Int.reduceSub, Int.reduceMul, Int.reduceNeg, Int.reduceLT, Int.reduceLE, Int.reduceEq, Int.reduceNe, Int.reduceBEq, Int.reduceBNe, Int.reduceToNat, Int.reduceGT, Int.reduceGE, ↓reduceIte, decide_true, decide_false, eq_self, Nat.mul_one, Nat.zero_mul, Nat.one_mul, Int.le_refl, Nat.le_refl, Int.cast_ofNat_Int]
      refine pwpC_loopU (A := { k : Nat // k ≤ T.length }) [1, 2, 4, 5] (fun k => [(7, .t (.int .i64 k.1))]) (fun k => [(2, .box [.own (ints (chIx B bits B.length)) B.length 3, .own (ints (chCo B bits B.length)) B.length 4, .own (ints (chCu T bits k.1)) k.1 5]), (5, .tok k.1 3)]) (fun k => T.length - k.1) ⟨0, by omega⟩ (by decide) (fun _ => by rfl) ?_ fun Q2 hQ2 ⟨m, hm⟩ I2 hI2 => ?_
      · simp (decide := true) (maxSteps := 4000000) only [go_sem, Nat.reduceAdd, Nat.reduceSub, Nat.reduceMul, Nat.reduceDiv, Nat.reduceMod, Nat.reduceLT, Nat.reduceLeDiff, Nat.reduceEqDiff, Nat.reduceBEq, Nat.reduceBNe, Nat.reduceGT, Int.reduceAdd, Int.reduceSub, Int.reduceMul, Int.reduceNeg, Int.reduceLT, Int.reduceLE, Int.reduceEq, Int.reduceNe, Int.reduceBEq, Int.reduceBNe, Int.reduceToNat, Int.reduceGT, Int.reduceGE, ↓reduceIte, decide_true, decide_false, eq_self, Nat.mul_one, Nat.zero_mul, Nat.one_mul, Int.le_refl, Nat.le_refl, Int.cast_ofNat_Int, chCu, List.range_zero, List.map_nil, ints]
        first | done | rfl
      · by_cases hlt2 : (m : Int) < T.length
        · obtain ⟨y, hy⟩ := get_lt hlt2
          have hd := flat_at Span.cs (n := 2) (fun _ => rfl) hy
          have hc1 : IntKind.i64.wrap (m + 1) = ((m + 1 : Nat) : Int) := by rw [wrap_in (by omega) (by omega)]; omega
          have w1 : IntKind.i64.wrap (m + 5) = (m : Int) + 5 := wrap_in (by omega) (by omega)
          have z := hs'.2.2.2 y (List.mem_of_getElem? hy)
          have q1 : (-9223372036854775808 ≤ y.lo ∧ y.lo ≤ 9223372036854775807) ∧ -9223372036854775808 ≤ y.hi ∧ y.hi ≤ 9223372036854775807 := by omega
          have s3 := chCu_succ T bits m
          rw [toolAt_eq hy] at s3
          have el3 : (ints (chCu T bits m)).length = m := by rw [ints_len, chCu_len]
          have hroom : (m + 1) * 8 ≤ 140737488355328 := by omega
          have hm6 : (m : Int) < 6 := by omega
          simp (decide := true) (maxSteps := 4000000) only [go_sem, Nat.reduceAdd, Nat.reduceSub, Nat.reduceMul, Nat.reduceDiv, Nat.reduceMod, Nat.reduceLT, Nat.reduceLeDiff, Nat.reduceEqDiff, Nat.reduceBEq, Nat.reduceBNe, Nat.reduceGT, Int.reduceAdd, Int.reduceSub, Int.reduceMul, Int.reduceNeg, Int.reduceLT, Int.reduceLE, Int.reduceEq, Int.reduceNe, Int.reduceBEq, Int.reduceBNe, Int.reduceToNat, Int.reduceGT, Int.reduceGE, ↓reduceIte, decide_true, decide_false, eq_self, Nat.mul_one, Nat.zero_mul, Nat.one_mul, Int.le_refl, Nat.le_refl, Int.cast_ofNat_Int, hlt2, hm6, hd, Span.cs, el3, hroom, rI, hlb, w1, q1, Int.toNat_natCast]
          refine hI2 _ ⟨m + 1, by omega⟩ (by simp only; omega) ?_
          simp (decide := true) (maxSteps := 4000000) only [go_sem, Nat.reduceAdd, Nat.reduceSub, Nat.reduceMul, Nat.reduceDiv, Nat.reduceMod, Nat.reduceLT, Nat.reduceLeDiff, Nat.reduceEqDiff, Nat.reduceBEq, Nat.reduceBNe, Nat.reduceGT, Int.reduceAdd, Int.reduceSub, Int.reduceMul, Int.reduceNeg, Int.reduceLT, Int.reduceLE, Int.reduceEq, Int.reduceNe, Int.reduceBEq, Int.reduceBNe, Int.reduceToNat, Int.reduceGT, Int.reduceGE, ↓reduceIte, decide_true, decide_false, eq_self, Nat.mul_one, Nat.zero_mul, Nat.one_mul, Int.le_refl, Nat.le_refl, Int.cast_ofNat_Int, hc1, s3, ints_snoc']
        · have hme : m = T.length := by omega
          subst hme
          have n1 : ¬ B.length = 0 := by omega
          have n2 : ¬ T.length = 0 := by omega
          simp (decide := true) (maxSteps := 4000000) only [go_sem, Nat.reduceAdd, Nat.reduceSub, Nat.reduceMul, Nat.reduceDiv, Nat.reduceMod, Nat.reduceLT, Nat.reduceLeDiff, Nat.reduceEqDiff, Nat.reduceBEq, Nat.reduceBNe, Nat.reduceGT, Int.reduceAdd, Int.reduceSub, Int.reduceMul, Int.reduceNeg, Int.reduceLT, Int.reduceLE, Int.reduceEq, Int.reduceNe, Int.reduceBEq, Int.reduceBNe, Int.reduceToNat, Int.reduceGT, Int.reduceGE, ↓reduceIte, decide_true, decide_false, eq_self, Nat.mul_one, Nat.zero_mul, Nat.one_mul, Int.le_refl, Nat.le_refl, Int.cast_ofNat_Int, hlt2]
          refine hQ2 _ _ ?_
          simp (decide := true) (maxSteps := 4000000) only [go_sem, Nat.reduceAdd, Nat.reduceSub, Nat.reduceMul, Nat.reduceDiv, Nat.reduceMod, Nat.reduceLT, Nat.reduceLeDiff, Nat.reduceEqDiff, Nat.reduceBEq, Nat.reduceBNe, Nat.reduceGT, Int.reduceAdd, Int.reduceSub, Int.reduceMul, Int.reduceNeg, Int.reduceLT, Int.reduceLE, Int.reduceEq, Int.reduceNe, Int.reduceBEq, Int.reduceBNe, Int.reduceToNat, Int.reduceGT, Int.reduceGE, ↓reduceIte, decide_true, decide_false, eq_self, Nat.mul_one, Nat.zero_mul, Nat.one_mul, Int.le_refl, Nat.le_refl, Int.cast_ofNat_Int, n1, n2]
noncomputable def goChosen : List TV → Option TV
  | [.agg [.sl cB n fB, .sl cT m fT], s] => match unBlanks cB, unSpans cT, rowL unI s with
    | some B, some T, some bits => if n = B.length ∧ m = T.length ∧ stockOk B T = true ∧ bits.length ≤ 9223372036854775806 then
        some (.agg [.sl (ints (chIx B bits B.length)) B.length false, .sl (ints (chCo B bits B.length)) B.length false, .sl (ints (chCu T bits T.length)) T.length false]) else none
    | _, _, _ => none
  | _ => none
theorem goChosen_ok : ∀ xs r, goChosen xs = some r → PCalls Try.prog 33 xs r := by
  intro xs r h
  unfold goChosen at h
  split at h
  · split at h
    · rename_i B T bits hB hT hI
      split at h
      · rename_i hc; cases h
        obtain ⟨rfl, rfl, h1, h2⟩ := hc
        rw [unBlanks_some hB, unSpans_some hT]
        exact oChosen_c _ _ h1 (rowL_some (un := unI) rfl (@unI_some) hI) h2
      · cases h
    · cases h
  · cases h
attribute [go_sem] goChosen
noncomputable def spN2 : Pm.Spec := spN1.one 33 goChosen
@[go_sem] theorem spN2_p (f : FuncId) (xs : List TV) : spN2.p f xs = Pm.Spec.p (spN1.one 33 goChosen) f xs := rfl
@[go_sem] theorem spN2_h (f : FuncId) (ps : List PV) (hl : List PO) : spN2.h f ps hl = Pm.Spec.h (spN1.one 33 goChosen) f ps hl := rfl
@[go_sem] theorem spN2_fz (f : FuncId) : spN2.fz f = Pm.Spec.fz (spN1.one 33 goChosen) f := rfl
@[go_sem] theorem spN2_fr (f : FuncId) : spN2.fr f = Pm.Spec.fr (spN1.one 33 goChosen) f := rfl
@[go_sem] theorem spN2_mu (t : TypeId) : spN2.mu t = Pm.Spec.mu (spN1.one 33 goChosen) t := rfl
theorem spN2_ok : SpecOk Try.prog spN2 := Spec.one_ok goChosen_ok spN1_ok
end Go.Proofs.Ytcjcnmpecmbdeaa

/- Part Goa. -/
namespace Go.Oc
open Go Go.Pm
theorem before_irr : ∀ l : List Int, before l l = false
  | [] => rfl
  | x :: l => by simp [before, before_irr l]
/-- Does one objective come before another one? -/
def obB (o q : Ob) : Bool := before [o.f, o.s, o.a, o.b, o.c] [q.f, q.s, q.a, q.b, q.c]
def obKey (B : List Blank) (T : List Span) (o : Ob) : List Int := [worstS (spansP B T o).c, priceO B o, o.f, o.s, o.a, o.b, o.c]
theorem obB_iff {o q : Ob} : obB o q = true ↔ o.f < q.f ∨ o.f = q.f ∧ (o.s < q.s ∨ o.s = q.s ∧ (o.a < q.a ∨ o.a = q.a ∧ (o.b < q.b ∨ o.b = q.b ∧ o.c < q.c))) := by
  unfold obB
  simp only [before]
  repeat' split
  all_goals first | omega | (constructor <;> intro h <;> first | rfl | omega | (cases h; done))
theorem key_iff {B : List Blank} {T : List Span} {o q : Ob} : before (obKey B T o) (obKey B T q) = true ↔ worstS (spansP B T o).c < worstS (spansP B T q).c ∨ worstS (spansP B T o).c = worstS (spansP B T q).c ∧ (priceO B o < priceO B q ∨ priceO B o = priceO B q ∧ obB o q = true) := by
  unfold obKey obB
  rw [before, before]
  repeat' split
  all_goals (constructor <;> intro h <;> first | rfl | omega | (cases h; done) | exact .inr ⟨by omega, .inr ⟨by omega, h⟩⟩ | (rcases h with h | ⟨_, h | ⟨_, h⟩⟩ <;> first | omega | exact h))
theorem obs2_sorted (m i j : Nat) : (obs2 m i j).Pairwise fun o q => obB o q = true := by
  unfold obs2
  rw [List.pairwise_map]
  refine List.Pairwise.imp_of_mem ?_ List.pairwise_lt_range
  intro x y hx hy hlt
  rw [obB_iff]
  simp only [true_and, Int.lt_irrefl, false_or]
  have hm : 0 < m := by
    rcases Nat.eq_zero_or_pos m with h | h
    · subst h; simp at hx
    · exact h
  have a1 := Nat.div_le_div_right (c := m) (show x ≤ y by omega)
  have a2 := Nat.div_le_div_right (c := m) a1
  have e1 := Nat.div_add_mod x m
  have e2 := Nat.div_add_mod y m
  have e3 := Nat.div_add_mod (x / m) m
  have e4 := Nat.div_add_mod (y / m) m
  by_cases c1 : x / m = y / m
  · have c2 : x % m < y % m := by rw [c1] at e1; omega
    rw [c1]; omega
  · by_cases c3 : x / m / m = y / m / m
    · have c4 : x / m % m < y / m % m := by rw [c3] at e3; omega
      rw [c3]; omega
    · omega
theorem obs1_sorted (n m i : Nat) : (obs1 n m i).Pairwise fun o q => obB o q = true := by
  unfold obs1
  rw [List.pairwise_flatMap]
  refine ⟨fun j _ => ?_, List.Pairwise.imp_of_mem ?_ List.pairwise_lt_range⟩
  · split
    · exact List.Pairwise.nil
    · exact obs2_sorted ..
  · intro j k _ _ hjk o ho q hq
    split at ho
    · cases ho
    · split at hq
      · cases hq
      · unfold obs2 at ho hq
        obtain ⟨x, _, rfl⟩ := List.mem_map.1 ho
        obtain ⟨y, _, rfl⟩ := List.mem_map.1 hq
        rw [obB_iff]; simp only [true_and, Int.lt_irrefl, false_or]; omega
theorem obs1_f {n m i : Nat} {o : Ob} (h : o ∈ obs1 n m i) : o.f = i := by
  unfold obs1 at h
  obtain ⟨j, _, hj⟩ := List.mem_flatMap.1 h
  split at hj
  · cases hj
  · unfold obs2 at hj
    obtain ⟨x, _, rfl⟩ := List.mem_map.1 hj
    rfl
theorem obsA_sorted (n m : Nat) : (obsA n m).Pairwise fun o q => obB o q = true := by
  unfold obsA
  rw [List.pairwise_flatMap]
  refine ⟨fun i _ => obs1_sorted .., List.Pairwise.imp_of_mem ?_ List.pairwise_lt_range⟩
  intro i k _ _ hik o ho q hq
  rw [obB_iff, obs1_f ho, obs1_f hq]; omega
/-- Each objective is one of all. -/
theorem obsA_mem {n m : Nat} {o : Ob} (h : obOk n m o = true) : o ∈ obsA n m := by
  obtain ⟨a, b, c, d, e, f⟩ := obOk_iff.1 h
  obtain ⟨of, os, oa, ob, oc⟩ := o
  simp only at a b c d e f
  obtain ⟨i, rfl⟩ := Int.eq_ofNat_of_zero_le a.1
  obtain ⟨j, rfl⟩ := Int.eq_ofNat_of_zero_le b.1
  obtain ⟨x, rfl⟩ := Int.eq_ofNat_of_zero_le d.1
  obtain ⟨y, rfl⟩ := Int.eq_ofNat_of_zero_le e.1
  obtain ⟨z, rfl⟩ := Int.eq_ofNat_of_zero_le f.1
  unfold obsA obs1
  refine List.mem_flatMap.2 ⟨i, List.mem_range.2 (by omega), List.mem_flatMap.2 ⟨j, List.mem_range.2 (by omega), ?_⟩⟩
  rw [if_neg (by omega)]
  exact List.mem_of_getElem? (obs2_at (a := x) (b := y) (c := z) (by omega) (by omega) (by omega))
/-- What is found in a sorted list: one that is good, before which no good one comes. -/
theorem bst_best {B : List Blank} {T : List Span} (w : Want) : ∀ (L : List Ob), L.Pairwise (fun o q => obB o q = true) →
    ((L.foldl (bstStep B T w) bst0).is = false → ∀ o ∈ L, goodB (spansP B T o) w = false) ∧
    ((L.foldl (bstStep B T w) bst0).is = true → (L.foldl (bstStep B T w) bst0).o ∈ L ∧ goodB (spansP B T (L.foldl (bstStep B T w) bst0).o) w = true ∧ (L.foldl (bstStep B T w) bst0).n = worstS (spansP B T (L.foldl (bstStep B T w) bst0).o).c ∧ (L.foldl (bstStep B T w) bst0).p = priceO B (L.foldl (bstStep B T w) bst0).o ∧
      ∀ o ∈ L, goodB (spansP B T o) w = true → before (obKey B T o) (obKey B T (L.foldl (bstStep B T w) bst0).o) = false) := by
  intro L
  suffices h : ∀ n (L : List Ob), L.length = n → L.Pairwise (fun o q => obB o q = true) →
    ((L.foldl (bstStep B T w) bst0).is = false → ∀ o ∈ L, goodB (spansP B T o) w = false) ∧
    ((L.foldl (bstStep B T w) bst0).is = true → (L.foldl (bstStep B T w) bst0).o ∈ L ∧ goodB (spansP B T (L.foldl (bstStep B T w) bst0).o) w = true ∧ (L.foldl (bstStep B T w) bst0).n = worstS (spansP B T (L.foldl (bstStep B T w) bst0).o).c ∧ (L.foldl (bstStep B T w) bst0).p = priceO B (L.foldl (bstStep B T w) bst0).o ∧
      ∀ o ∈ L, goodB (spansP B T o) w = true → before (obKey B T o) (obKey B T (L.foldl (bstStep B T w) bst0).o) = false) from h L.length L rfl
  intro n
  induction n with
  | zero =>
    intro L hL _
    have := List.length_eq_zero_iff.1 hL
    subst this
    exact ⟨fun _ o h => (by cases h), fun h => (by cases h)⟩
  | succ n ih =>
    intro L hL hp
    rcases snoc_cases L with rfl | ⟨I, q, rfl⟩
    · simp at hL
    · simp only [List.length_append, List.length_cons, List.length_nil] at hL
      rw [List.pairwise_append] at hp
      obtain ⟨ih1, ih2⟩ := ih I (by omega) hp.1
      rw [List.foldl_append, List.foldl_cons, List.foldl_nil]
      generalize I.foldl (bstStep B T w) bst0 = X at ih1 ih2 ⊢
      unfold bstStep
      cases hg : goodB (spansP B T q) w with
      | false =>
        simp only [Bool.false_eq_true, if_false]
        refine ⟨fun h o ho => ?_, fun h => ?_⟩
        · rcases List.mem_append.1 ho with ho | ho
          · exact ih1 h o ho
          · rw [List.mem_singleton] at ho; rw [ho]; exact hg
        · obtain ⟨a, b, c, d, e⟩ := ih2 h
          refine ⟨List.mem_append_left _ a, b, c, d, fun o ho hgo => ?_⟩
          rcases List.mem_append.1 ho with ho | ho
          · exact e o ho hgo
          · rw [List.mem_singleton] at ho; rw [ho, hg] at hgo; cases hgo
      | true =>
        simp only [if_true]
        split
        · rename_i hc
          refine ⟨fun h => (by cases h), fun _ => ⟨by simp, hg, rfl, rfl, fun o ho hgo => ?_⟩⟩
          simp only
          rcases List.mem_append.1 ho with ho | ho
          · cases hi : X.is with
            | false => rw [ih1 hi o ho] at hgo; cases hgo
            | true =>
              obtain ⟨a, b, c, d, e⟩ := ih2 hi
              have := e o ho hgo
              rw [← Bool.not_eq_true, key_iff] at this ⊢
              rw [hi, c, d] at hc
              intro h'
              apply this
              rcases hc with hc | hc | hc
              · cases hc
              · left; omega
              · rcases h' with h' | ⟨h1, h' | ⟨h2, h'⟩⟩
                · left; omega
                · right; exact ⟨by omega, by omega⟩
                · right; exact ⟨by omega, by omega⟩
          · rw [List.mem_singleton] at ho; rw [ho]; exact before_irr _
        · rename_i hc
          refine ⟨fun h => absurd (.inl h) hc, fun h => ?_⟩
          obtain ⟨a, b, c, d, e⟩ := ih2 h
          refine ⟨List.mem_append_left _ a, b, c, d, fun o ho hgo => ?_⟩
          rcases List.mem_append.1 ho with ho | ho
          · exact e o ho hgo
          · rw [List.mem_singleton] at ho
            subst ho
            rw [← Bool.not_eq_true, key_iff]
            rw [c, d] at hc
            have h1 := hp.2.2 X.o a o (by simp)
            rw [obB_iff] at h1
            rintro (h' | ⟨h1', h' | ⟨h2', h'⟩⟩)
            · exact hc (.inr (.inl h'))
            · exact hc (.inr (.inr ⟨h1', h'⟩))
            · rw [obB_iff] at h'; omega
end Go.Oc

/- Part Go. -/
namespace Go.Oc
open Go Go.Pm
theorem before_end : ∀ {a b : List Int}, a = [] ∨ b = [] → before a b = decide (a.length < b.length)
  | [], [], _ => rfl
  | [], _ :: _, _ => by simp [before]
  | _ :: _, [], _ => by simp [before]
  | _ :: _, _ :: _, h => by rcases h with h | h <;> cases h
/-- The number that is compared: of a span of colours. -/
theorem worst_abs {c : Span} (h : c.lo ≤ c.hi) : max (max c.lo (-c.lo)) (max c.hi (-c.hi)) = worstS c := by unfold worstS; omega
/-- What Best says of the objectives of a stock. -/
theorem best_says {B : List Blank} {T : List Span} {w : Want} (hs : stockOk B T = true) (hw : wantOk w = true) :
    ((bestP B T w = (bst0.o, 0, 4) ∧ ∀ o, obOk B.length T.length o = true → goodB (spansP B T o) w = false) ∨
     ∃ b, bestP B T w = (b, worstS (spansP B T b).c, 0) ∧ obOk B.length T.length b = true ∧ goodB (spansP B T b) w = true ∧ ∀ o, obOk B.length T.length o = true → goodB (spansP B T o) w = true → before (obKey B T o) (obKey B T b) = false) := by
  have hs' := stockOk_iff.1 hs
  obtain ⟨h1, h2⟩ := bst_best (B := B) (T := T) w _ (obsA_sorted B.length T.length)
  unfold bestP
  rw [if_neg (by rw [hs]; decide), if_neg (by rw [hw]; decide)]
  simp only
  generalize (obsA B.length T.length).foldl (bstStep B T w) bst0 = X at h1 h2 ⊢
  cases hi : X.is with
  | false =>
    left
    exact ⟨by simp, fun o ho => h1 hi o (obsA_mem ho)⟩
  | true =>
    right
    obtain ⟨a, b, c, d, e⟩ := h2 hi
    exact ⟨X.o, by simp [c], obs_mem (by omega) a, b, fun o ho hg => e o (obsA_mem ho) hg⟩
end Go.Oc
namespace Go.Proofs.Ytcjcnmpecmbdeaa
open Go.RowKit Go.Pm Go.Oc
set_option maxRecDepth 100000
set_option linter.unusedVariables false
set_option maxHeartbeats 4000000

theorem Before_c (a b : List Int) (fa fb : Bool) (ha : a.length ≤ 9223372036854775806) (hb : b.length ≤ 9223372036854775806) : PCalls Try.prog 49 [.sl (ints a) a.length fa, .sl (ints b) b.length fb] (.bool (before a b)) := by
  refine pcalls_by Try.mixes noSpec_ok (fn := Try.f49) Try.func49 rfl (by kernel_rfl) (by show 2 ≤ _; decide) ?_
  simp (decide := true) (maxSteps := 4000000) only [go_sem, Nat.reduceAdd, Nat.reduceSub, Nat.reduceMul, Nat.reduceDiv, Nat.reduceMod, Nat.reduceLT, Nat.reduceLeDiff, Nat.reduceEqDiff, Nat.reduceBEq, Nat.reduceBNe, Nat.reduceGT, Int.reduceAdd, Int.reduceSub, Int.reduceMul, Int.reduceNeg, Int.reduceLT, Int.reduceLE, Int.reduceEq, Int.reduceNe, Int.reduceBEq, Int.reduceBNe, Int.reduceToNat, Int.reduceGT, Int.reduceGE, ↓reduceIte, decide_true, decide_false, eq_self, Nat.mul_one, Nat.zero_mul, Nat.one_mul, Int.le_refl, Nat.le_refl, Int.cast_ofNat_Int, Try.f49]
  refine pwpC_loopU (A := { k : Nat // k ≤ min a.length b.length ∧ before a b = before (a.drop k) (b.drop k) }) [0, 1] (fun k => [(5, .t (.int .i64 k.1))]) (fun k => []) (fun k => min a.length b.length - k.1) ⟨0, by omega, rfl⟩ (by decide) (fun _ => by rfl) ?_ fun Q1 hQ1 ⟨k, hk, hbf⟩ I1 hI1 => ?_
  · simp (decide := true) (maxSteps := 4000000) only [go_sem, Nat.reduceAdd, Nat.reduceSub, Nat.reduceMul, Nat.reduceDiv, Nat.reduceMod, Nat.reduceLT, Nat.reduceLeDiff, Nat.reduceEqDiff, Nat.reduceBEq, Nat.reduceBNe, Nat.reduceGT, Int.reduceAdd, Int.reduceSub, Int.reduceMul, Int.reduceNeg, Int.reduceLT, Int.reduceLE, Int.reduceEq, Int.reduceNe, Int.reduceBEq, Int.reduceBNe, Int.reduceToNat, Int.reduceGT, Int.reduceGE, ↓reduceIte, decide_true, decide_false, eq_self, Nat.mul_one, Nat.zero_mul, Nat.one_mul, Int.le_refl, Nat.le_refl, Int.cast_ofNat_Int]
  · by_cases hlt : (k : Int) < min (a.length : Int) b.length
    · have hc1 : IntKind.i64.wrap (k + 1) = ((k + 1 : Nat) : Int) := by rw [wrap_in (by omega) (by omega)]; omega
      have hka : (k : Int) < a.length := by omega
      have hkb : (k : Int) < b.length := by omega
      obtain ⟨x, hx⟩ := get_lt hka
      obtain ⟨y, hy⟩ := get_lt hkb
      have da : a.drop k = x :: a.drop (k + 1) := by rw [List.drop_eq_getElem_cons (by omega)]; rw [List.getElem?_eq_getElem (by omega)] at hx; cases hx; rfl
      have db : b.drop k = y :: b.drop (k + 1) := by rw [List.drop_eq_getElem_cons (by omega)]; rw [List.getElem?_eq_getElem (by omega)] at hy; cases hy; rfl
      have ia := ints_at hx
      have ib := ints_at hy
      rw [Nat.mul_one] at ia ib
      rw [da, db] at hbf
      simp only [before] at hbf
      by_cases h1 : x < y
      · rw [if_pos h1] at hbf
        simp (decide := true) (maxSteps := 4000000) only [go_sem, Nat.reduceAdd, Nat.reduceSub, Nat.reduceMul, Nat.reduceDiv, Nat.reduceMod, Nat.reduceLT, Nat.reduceLeDiff, Nat.reduceEqDiff, Nat.reduceBEq, Nat.reduceBNe, Nat.reduceGT, Int.reduceAdd, Int.reduceSub, Int.reduceMul, Int.reduceNeg, Int.reduceLT, Int.reduceLE, Int.reduceEq, Int.reduceNe, Int.reduceBEq, Int.reduceBNe, Int.reduceToNat, Int.reduceGT, Int.reduceGE, ↓reduceIte, decide_true, decide_false, eq_self, Nat.mul_one, Nat.zero_mul, Nat.one_mul, Int.le_refl, Nat.le_refl, Int.cast_ofNat_Int, hlt, hka, hkb, ia, ib, h1, hbf]
        try (refine hQ1 _ _ ?_; simp (decide := true) (maxSteps := 4000000) only [go_sem, Nat.reduceAdd, Nat.reduceSub, Nat.reduceMul, Nat.reduceDiv, Nat.reduceMod, Nat.reduceLT, Nat.reduceLeDiff, Nat.reduceEqDiff, Nat.reduceBEq, Nat.reduceBNe, Nat.reduceGT, Int.reduceAdd, Int.reduceSub, Int.reduceMul, Int.reduceNeg, Int.reduceLT, Int.reduceLE, Int.reduceEq, Int.reduceNe, Int.reduceBEq, Int.reduceBNe, Int.reduceToNat, Int.reduceGT, Int.reduceGE, ↓reduceIte, decide_true, decide_false, eq_self, Nat.mul_one, Nat.zero_mul, Nat.one_mul, Int.le_refl, Nat.le_refl, Int.cast_ofNat_Int, hbf])
      · rw [if_neg h1] at hbf
        by_cases h2 : y < x
        · rw [if_pos h2] at hbf
          have h2' : x > y := h2
          simp (decide := true) (maxSteps := 4000000) only [go_sem, Nat.reduceAdd, Nat.reduceSub, Nat.reduceMul, Nat.reduceDiv, Nat.reduceMod, Nat.reduceLT, Nat.reduceLeDiff, Nat.reduceEqDiff, Nat.reduceBEq, Nat.reduceBNe, Nat.reduceGT, Int.reduceAdd, Int.reduceSub, Int.reduceMul, Int.reduceNeg, Int.reduceLT, Int.reduceLE, Int.reduceEq, Int.reduceNe, Int.reduceBEq, Int.reduceBNe, Int.reduceToNat, Int.reduceGT, Int.reduceGE, ↓reduceIte, decide_true, decide_false, eq_self, Nat.mul_one, Nat.zero_mul, Nat.one_mul, Int.le_refl, Nat.le_refl, Int.cast_ofNat_Int, hlt, hka, hkb, ia, ib, h1, h2', hbf]
          try (refine hQ1 _ _ ?_; simp (decide := true) (maxSteps := 4000000) only [go_sem, Nat.reduceAdd, Nat.reduceSub, Nat.reduceMul, Nat.reduceDiv, Nat.reduceMod, Nat.reduceLT, Nat.reduceLeDiff, Nat.reduceEqDiff, Nat.reduceBEq, Nat.reduceBNe, Nat.reduceGT, Int.reduceAdd, Int.reduceSub, Int.reduceMul, Int.reduceNeg, Int.reduceLT, Int.reduceLE, Int.reduceEq, Int.reduceNe, Int.reduceBEq, Int.reduceBNe, Int.reduceToNat, Int.reduceGT, Int.reduceGE, ↓reduceIte, decide_true, decide_false, eq_self, Nat.mul_one, Nat.zero_mul, Nat.one_mul, Int.le_refl, Nat.le_refl, Int.cast_ofNat_Int, hbf])
        · rw [if_neg h2] at hbf
          have h2' : ¬ x > y := h2
          simp (decide := true) (maxSteps := 4000000) only [go_sem, Nat.reduceAdd, Nat.reduceSub, Nat.reduceMul, Nat.reduceDiv, Nat.reduceMod, Nat.reduceLT, Nat.reduceLeDiff, Nat.reduceEqDiff, Nat.reduceBEq, Nat.reduceBNe, Nat.reduceGT, Int.reduceAdd, Int.reduceSub, Int.reduceMul, Int.reduceNeg, Int.reduceLT, Int.reduceLE, Int.reduceEq, Int.reduceNe, Int.reduceBEq, Int.reduceBNe, Int.reduceToNat, Int.reduceGT, Int.reduceGE, ↓reduceIte, decide_true, decide_false, eq_self, Nat.mul_one, Nat.zero_mul, Nat.one_mul, Int.le_refl, Nat.le_refl, Int.cast_ofNat_Int, hlt, hka, hkb, ia, ib, h1, h2']
          refine hI1 _ ⟨k + 1, by omega, hbf⟩ (by simp only; omega) ?_
          simp (decide := true) (maxSteps := 4000000) only [go_sem, Nat.reduceAdd, Nat.reduceSub, Nat.reduceMul, Nat.reduceDiv, Nat.reduceMod, Nat.reduceLT, Nat.reduceLeDiff, Nat.reduceEqDiff, Nat.reduceBEq, Nat.reduceBNe, Nat.reduceGT, Int.reduceAdd, Int.reduceSub, Int.reduceMul, Int.reduceNeg, Int.reduceLT, Int.reduceLE, Int.reduceEq, Int.reduceNe, Int.reduceBEq, Int.reduceBNe, Int.reduceToNat, Int.reduceGT, Int.reduceGE, ↓reduceIte, decide_true, decide_false, eq_self, Nat.mul_one, Nat.zero_mul, Nat.one_mul, Int.le_refl, Nat.le_refl, Int.cast_ofNat_Int, hc1]
    · simp (decide := true) (maxSteps := 4000000) only [go_sem, Nat.reduceAdd, Nat.reduceSub, Nat.reduceMul, Nat.reduceDiv, Nat.reduceMod, Nat.reduceLT, Nat.reduceLeDiff, Nat.reduceEqDiff, Nat.reduceBEq, Nat.reduceBNe, Nat.reduceGT, Int.reduceAdd, Int.reduceSub, Int.reduceMul, Int.reduceNeg, Int.reduceLT, Int.reduceLE, Int.reduceEq, Int.reduceNe, Int.reduceBEq, Int.reduceBNe, Int.reduceToNat, Int.reduceGT, Int.reduceGE, ↓reduceIte, decide_true, decide_false, eq_self, Nat.mul_one, Nat.zero_mul, Nat.one_mul, Int.le_refl, Nat.le_refl, Int.cast_ofNat_Int, hlt]
      refine hQ1 _ _ ?_
      have e : before a b = decide ((a.length : Int) < b.length) := by
        rw [hbf, before_end]
        · simp only [List.length_drop]
          rw [decide_eq_decide]
          omega
        · rcases Nat.le_total a.length b.length with h | h
          · exact .inl (List.drop_eq_nil_of_le (by omega))
          · exact .inr (List.drop_eq_nil_of_le (by omega))
      simp (decide := true) (maxSteps := 4000000) only [go_sem, Nat.reduceAdd, Nat.reduceSub, Nat.reduceMul, Nat.reduceDiv, Nat.reduceMod, Nat.reduceLT, Nat.reduceLeDiff, Nat.reduceEqDiff, Nat.reduceBEq, Nat.reduceBNe, Nat.reduceGT, Int.reduceAdd, Int.reduceSub, Int.reduceMul, Int.reduceNeg, Int.reduceLT, Int.reduceLE, Int.reduceEq, Int.reduceNe, Int.reduceBEq, Int.reduceBNe, Int.reduceToNat, Int.reduceGT, Int.reduceGE, ↓reduceIte, decide_true, decide_false, eq_self, Nat.mul_one, Nat.zero_mul, Nat.one_mul, Int.le_refl, Nat.le_refl, Int.cast_ofNat_Int, e]
noncomputable def gBefore : List TV → Option TV
  | [.sl cs n f, .sl cs' n' f'] => match unI cs, unI cs' with
    | some a, some b => if n = a.length ∧ n' = b.length ∧ a.length ≤ 62 ∧ b.length ≤ 62 then some (.bool (before a b)) else none
    | _, _ => none
  | _ => none
theorem gBefore_ok : ∀ xs r, gBefore xs = some r → PCalls Try.prog 49 xs r := by
  intro xs r h
  unfold gBefore at h
  split at h
  · split at h
    · rename_i a b ha hb
      split at h
      · rename_i hc; cases h
        have e1 := unI_some ha
        have e2 := unI_some hb
        rw [ic_ints] at e1 e2
        obtain ⟨rfl, rfl, h1, h2⟩ := hc
        rw [e1, e2]
        exact Before_c a b _ _ (by omega) (by omega)
      · cases h
    · cases h
  · cases h
attribute [go_sem] gBefore
noncomputable def spO1 : Pm.Spec := spL3.one 49 gBefore
@[go_sem] theorem spO1_p (f : FuncId) (xs : List TV) : spO1.p f xs = Pm.Spec.p (spL3.one 49 gBefore) f xs := rfl
@[go_sem] theorem spO1_h (f : FuncId) (ps : List PV) (hl : List PO) : spO1.h f ps hl = Pm.Spec.h (spL3.one 49 gBefore) f ps hl := rfl
@[go_sem] theorem spO1_fz (f : FuncId) : spO1.fz f = Pm.Spec.fz (spL3.one 49 gBefore) f := rfl
@[go_sem] theorem spO1_fr (f : FuncId) : spO1.fr f = Pm.Spec.fr (spL3.one 49 gBefore) f := rfl
@[go_sem] theorem spO1_mu (t : TypeId) : spO1.mu t = Pm.Spec.mu (spL3.one 49 gBefore) t := rfl
theorem spO1_ok : SpecOk Try.prog spO1 := Spec.one_ok gBefore_ok spL3_ok
theorem GlassBest_c {B : List Blank} {T : List Span} {sB sT : TV} (hB : IsRow Blank.cs sB B) (hT : IsRow Span.cs sT T) (hlB : B.length ≤ 5864062014806) (hlT : T.length ≤ 9000000000000) (w : Want) (o : Ob) : PCalls Try.prog 10 [.agg [sB, sT], w.t, o.t] (.bool true) := by
  have rB := rowB_is hB
  have rT := rowT_is hT
  unfold rowL at rB rT
  refine pcalls_by Try.mixes spO1_ok (fn := Try.f10) Try.func10 rfl (by kernel_rfl) (by show 3 ≤ _; decide) ?_
  rcases (Bool.eq_false_or_eq_true (stockOk B T)).symm with hs | hs
  · have bp : bestP B T w = (bst0.o, 0, 40) := by unfold bestP; rw [if_pos hs]
    have ge : goodE B T w o = (false, 40) := by unfold goodE askedG; rw [hs]; rfl
    simp (decide := true) (maxSteps := 4000000) only [go_sem, Nat.reduceAdd, Nat.reduceSub, Nat.reduceMul, Nat.reduceDiv, Nat.reduceMod, Nat.reduceLT, Nat.reduceLeDiff, Nat.reduceEqDiff, Nat.reduceBEq, Nat.reduceBNe, Nat.reduceGT, Int.reduceAdd, Int.reduceSub, Int.reduceMul, Int.reduceNeg, Int.reduceLT, Int.reduceLE, Int.reduceEq, Int.reduceNe, Int.reduceBEq, Int.reduceBNe, Int.reduceToNat, Int.reduceGT, Int.reduceGE, ↓reduceIte, decide_true, decide_false, eq_self, Nat.mul_one, Nat.zero_mul, Nat.one_mul, Int.le_refl, Nat.le_refl, Int.cast_ofNat_Int, Try.f10, Ob.t, Ob.cs, Want.t, rB, rT, hlB, hlT, bp, ge, bst0]
  · rcases (Bool.eq_false_or_eq_true (wantOk w)).symm with hw | hw
    · have bp : bestP B T w = (bst0.o, 0, 43) := by unfold bestP; rw [if_neg (by rw [hs]; decide), if_pos hw]
      have ge : goodE B T w o = (false, 43) := by unfold goodE askedG; rw [hs, hw]; rfl
      simp (decide := true) (maxSteps := 4000000) only [go_sem, Nat.reduceAdd, Nat.reduceSub, Nat.reduceMul, Nat.reduceDiv, Nat.reduceMod, Nat.reduceLT, Nat.reduceLeDiff, Nat.reduceEqDiff, Nat.reduceBEq, Nat.reduceBNe, Nat.reduceGT, Int.reduceAdd, Int.reduceSub, Int.reduceMul, Int.reduceNeg, Int.reduceLT, Int.reduceLE, Int.reduceEq, Int.reduceNe, Int.reduceBEq, Int.reduceBNe, Int.reduceToNat, Int.reduceGT, Int.reduceGE, ↓reduceIte, decide_true, decide_false, eq_self, Nat.mul_one, Nat.zero_mul, Nat.one_mul, Int.le_refl, Nat.le_refl, Int.cast_ofNat_Int, Try.f10, Ob.t, Ob.cs, Want.t, rB, rT, hlB, hlT, bp, ge, bst0]
    · have gs : ∀ o, goodE B T w o = if obOk B.length T.length o = true then (goodB (spansP B T o) w, 0) else (false, 41) := by
        intro o
        unfold goodE askedG
        rw [hs, hw]
        cases obOk B.length T.length o <;> simp
      rcases best_says hs hw with ⟨bp, hno⟩ | ⟨b, bp, hb, hgb, hbe⟩
      · rcases (Bool.eq_false_or_eq_true (obOk B.length T.length o)).symm with ho | ho
        · have ge := gs o
          rw [if_neg (by rw [ho]; decide)] at ge
          simp (decide := true) (maxSteps := 4000000) only [go_sem, Nat.reduceAdd, Nat.reduceSub, Nat.reduceMul, Nat.reduceDiv, Nat.reduceMod, Nat.reduceLT, Nat.reduceLeDiff, Nat.reduceEqDiff, Nat.reduceBEq, Nat.reduceBNe, Nat.reduceGT, Int.reduceAdd, Int.reduceSub, Int.reduceMul, Int.reduceNeg, Int.reduceLT, Int.reduceLE, Int.reduceEq, Int.reduceNe, Int.reduceBEq, Int.reduceBNe, Int.reduceToNat, Int.reduceGT, Int.reduceGE, ↓reduceIte, decide_true, decide_false, eq_self, Nat.mul_one, Nat.zero_mul, Nat.one_mul, Int.le_refl, Nat.le_refl, Int.cast_ofNat_Int, Try.f10, Ob.t, Ob.cs, Want.t, rB, rT, hlB, hlT, bp, ge, bst0]
        · have ge := gs o
          rw [if_pos ho, hno o ho] at ge
          simp (decide := true) (maxSteps := 4000000) only [go_sem, Nat.reduceAdd, Nat.reduceSub, Nat.reduceMul, Nat.reduceDiv, Nat.reduceMod, Nat.reduceLT, Nat.reduceLeDiff, Nat.reduceEqDiff, Nat.reduceBEq, Nat.reduceBNe, Nat.reduceGT, Int.reduceAdd, Int.reduceSub, Int.reduceMul, Int.reduceNeg, Int.reduceLT, Int.reduceLE, Int.reduceEq, Int.reduceNe, Int.reduceBEq, Int.reduceBNe, Int.reduceToNat, Int.reduceGT, Int.reduceGE, ↓reduceIte, decide_true, decide_false, eq_self, Nat.mul_one, Nat.zero_mul, Nat.one_mul, Int.le_refl, Nat.le_refl, Int.cast_ofNat_Int, Try.f10, Ob.t, Ob.cs, Want.t, rB, rT, hlB, hlT, bp, ge, bst0]
      · have hs' := stockOk_iff.1 hs
        have hb' := obOk_iff.1 hb
        obtain ⟨fB, rfl⟩ := hB.ne (by omega)
        obtain ⟨fT, rfl⟩ := hT.ne (by omega)
        have ges := gs b
        rw [if_pos hb, hgb] at ges
        have sp : ∀ o, obOk B.length T.length o = true → spansE B T o = (spansP B T o, 0) := fun o ho => by unfold spansE; rw [if_neg (by rw [hs]; decide), if_neg (by rw [ho]; decide)]
        have sb := sp b hb
        have bb := spansP_bound hs hb
        have wb1 : IntKind.i64.wrap (0 - (spansP B T b).c.lo) = -(spansP B T b).c.lo := by rw [wrap_in (by omega) (by omega)]; omega
        have wb2 : IntKind.i64.wrap (0 - (spansP B T b).c.hi) = -(spansP B T b).c.hi := by rw [wrap_in (by omega) (by omega)]; omega
        have wb := worst_abs (c := (spansP B T b).c) (by omega)
        have wl : IntKind.i64.wrap ((B.length : Int) - 1) = (B.length : Int) - 1 := wrap_in (by omega) (by omega)
        have i1 : inB b.f 0 ((B.length : Int) - 1) = true := inB_iff.2 hb'.1
        have i2 : inB b.s 0 ((B.length : Int) - 1) = true := inB_iff.2 hb'.2.1
        have hk : ∀ q, obOk B.length T.length q = true → ∃ x y, (q.f = (x : Nat) ∧ B[x]? = some (blankAt B q.f)) ∧ (q.s = (y : Nat) ∧ B[y]? = some (blankAt B q.s)) := by
          intro q hq
          have hq' := obOk_iff.1 hq
          obtain ⟨x, hx⟩ := Int.eq_ofNat_of_zero_le hq'.1.1
          obtain ⟨y, hy⟩ := Int.eq_ofNat_of_zero_le hq'.2.1.1
          obtain ⟨p, hp⟩ := get_lt (l := B) (k := x) (by omega)
          obtain ⟨r, hr⟩ := get_lt (l := B) (k := y) (by omega)
          exact ⟨x, y, ⟨hx, by rw [hx, blankAt_eq hp]; exact hp⟩, hy, by rw [hy, blankAt_eq hr]; exact hr⟩
        rcases (Bool.eq_false_or_eq_true (obOk B.length T.length o && goodB (spansP B T o) w)).symm with hg | hg
        · have ge := gs o
          have ge1 : (goodE B T w o).1 = false := by
            rw [ge]
            cases ho : obOk B.length T.length o with
            | false => rfl
            | true => rw [ho, Bool.true_and] at hg; simpa using hg
          simp (decide := true) (maxSteps := 4000000) only [go_sem, Nat.reduceAdd, Nat.reduceSub, Nat.reduceMul, Nat.reduceDiv, Nat.reduceMod, Nat.reduceLT, Nat.reduceLeDiff, Nat.reduceEqDiff, Nat.reduceBEq, Nat.reduceBNe, Nat.reduceGT, Int.reduceAdd, Int.reduceSub, Int.reduceMul, Int.reduceNeg, Int.reduceLT, Int.reduceLE, Int.reduceEq, Int.reduceNe, Int.reduceBEq, Int.reduceBNe, Int.reduceToNat, Int.reduceGT, Int.reduceGE, ↓reduceIte, decide_true, decide_false, eq_self, Nat.mul_one, Nat.zero_mul, Nat.one_mul, Int.le_refl, Nat.le_refl, Int.cast_ofNat_Int, Try.f10, Ob.t, Ob.cs, Want.t, rB, rT, hlB, hlT, bp, ge1, ges, sb, wb1, wb2, wb, wl, i1, i2, Span.t, Span.cs, bne_self_eq_false]
        · rw [Bool.and_eq_true] at hg
          obtain ⟨ho, hg⟩ := hg
          have ho' := obOk_iff.1 ho
          have ge := gs o
          rw [if_pos ho, hg] at ge
          have so := sp o ho
          have bo := spansP_bound hs ho
          have wo1 : IntKind.i64.wrap (0 - (spansP B T o).c.lo) = -(spansP B T o).c.lo := by rw [wrap_in (by omega) (by omega)]; omega
          have wo2 : IntKind.i64.wrap (0 - (spansP B T o).c.hi) = -(spansP B T o).c.hi := by rw [wrap_in (by omega) (by omega)]; omega
          have wo := worst_abs (c := (spansP B T o).c) (by omega)
          have i3 : inB o.f 0 ((B.length : Int) - 1) = true := inB_iff.2 ho'.1
          have i4 : inB o.s 0 ((B.length : Int) - 1) = true := inB_iff.2 ho'.2.1
          have hbf := hbe o ho hg
          unfold obKey priceO at hbf
          obtain ⟨x1, y1, ⟨ex1, gx1⟩, ey1, gy1⟩ := hk b hb
          obtain ⟨x2, y2, ⟨ex2, gx2⟩, ey2, gy2⟩ := hk o ho
          have d1 := flat_at Blank.cs (n := 5) (fun _ => rfl) gx1
          have d2 := flat_at Blank.cs (n := 5) (fun _ => rfl) gy1
          have d3 := flat_at Blank.cs (n := 5) (fun _ => rfl) gx2
          have d4 := flat_at Blank.cs (n := 5) (fun _ => rfl) gy2
          have z1 := hs'.2.2.1 _ (List.mem_of_getElem? gx1)
          have z2 := hs'.2.2.1 _ (List.mem_of_getElem? gy1)
          have z3 := hs'.2.2.1 _ (List.mem_of_getElem? gx2)
          have z4 := hs'.2.2.1 _ (List.mem_of_getElem? gy2)
          have p1 : IntKind.i64.wrap ((blankAt B b.f).pr + (blankAt B b.s).pr) = (blankAt B b.f).pr + (blankAt B b.s).pr := wrap_in (by omega) (by omega)
          have p2 : IntKind.i64.wrap ((blankAt B o.f).pr + (blankAt B o.s).pr) = (blankAt B o.f).pr + (blankAt B o.s).pr := wrap_in (by omega) (by omega)
          have l1 : (x1 : Int) < B.length := by omega
          have l2 : (y1 : Int) < B.length := by omega
          have l3 : (x2 : Int) < B.length := by omega
          have l4 : (y2 : Int) < B.length := by omega
          obtain ⟨⟨Pb, Cb⟩, hSb⟩ : ∃ S, spansP B T b = S := ⟨_, rfl⟩
          obtain ⟨⟨Po, Co⟩, hSo⟩ : ∃ S, spansP B T o = S := ⟨_, rfl⟩
          rw [hSb] at bp sb wb1 wb2 wb hbf
          rw [hSo] at so wo1 wo2 wo hbf
          simp only at bp sb wb1 wb2 wb hbf so wo1 wo2 wo
          clear hSb hSo
          generalize blankAt B b.f = P1 at d1 p1 hbf
          generalize blankAt B b.s = P2 at d2 p1 hbf
          generalize blankAt B o.f = P3 at d3 p2 hbf
          generalize blankAt B o.s = P4 at d4 p2 hbf
          obtain ⟨bf, bs, ba, bb', bc⟩ := b
          obtain ⟨of, os, oa, ob, oc⟩ := o
          simp only at ex1 ey1 ex2 ey2 hbf i1 i2 i3 i4
          subst ex1; subst ey1; subst ex2; subst ey2
          simp (decide := true) (maxSteps := 4000000) only [go_sem, Nat.reduceAdd, Nat.reduceSub, Nat.reduceMul, Nat.reduceDiv, Nat.reduceMod, Nat.reduceLT, Nat.reduceLeDiff, Nat.reduceEqDiff, Nat.reduceBEq, Nat.reduceBNe, Nat.reduceGT, Int.reduceAdd, Int.reduceSub, Int.reduceMul, Int.reduceNeg, Int.reduceLT, Int.reduceLE, Int.reduceEq, Int.reduceNe, Int.reduceBEq, Int.reduceBNe, Int.reduceToNat, Int.reduceGT, Int.reduceGE, ↓reduceIte, decide_true, decide_false, eq_self, Nat.mul_one, Nat.zero_mul, Nat.one_mul, Int.le_refl, Nat.le_refl, Int.cast_ofNat_Int, Try.f10, Ob.t, Ob.cs, Want.t, rB, rT, hlB, hlT, bp, ge, ges, sb, so, wb1, wb2, wb, wo1, wo2, wo, wl, i1, i2, i3, i4, Span.t, Span.cs, bne_self_eq_false, l1, l2, l3, l4, d1, d2, d3, d4, Blank.cs, p1, p2, Int.toNat_natCast, unI, Option.map_some, List.length_cons, List.length_nil, hbf]
end Go.Proofs.Ytcjcnmpecmbdeaa

/- Part Gpm. -/
namespace Go.Oc
open Go Go.Pm
/-- Without a number. -/
def wo (p : Nat → Bool) (v : Nat) : Nat → Bool := fun i => p i && i != v
theorem wo_iff {p : Nat → Bool} {v i : Nat} : wo p v i = true ↔ p i = true ∧ i ≠ v := by simp [wo]
theorem wo_comm (p : Nat → Bool) (u v : Nat) : wo (wo p u) v = wo (wo p v) u := by
  funext i; simp only [wo]; cases p i <;> cases (i != u) <;> cases (i != v) <;> rfl
/-- Pairs of different numbers, no two of which have one in common. -/
def Mt (E : Nat → Nat → Bool) : (Nat → Bool) → List (Nat × Nat) → Prop
  | _, [] => True
  | p, (i, j) :: l => i ≠ j ∧ p i = true ∧ p j = true ∧ E i j = true ∧ Mt E (wo (wo p i) j) l
theorem Mt_mono {E : Nat → Nat → Bool} : ∀ {l : List (Nat × Nat)} {p q : Nat → Bool}, (∀ i, p i = true → q i = true) → Mt E p l → Mt E q l
  | [], _, _, _, _ => trivial
  | (i, j) :: l, p, q, hpq, ⟨a, b, c, d, e⟩ => ⟨a, hpq i b, hpq j c, d, Mt_mono (fun k hk => by rw [wo_iff, wo_iff] at hk ⊢; exact ⟨⟨hpq k hk.1.1, hk.1.2⟩, hk.2⟩) e⟩
theorem Mt_out {E : Nat → Nat → Bool} (hE : ∀ i j, E i j = E j i) (v : Nat) : ∀ {l : List (Nat × Nat)} {p : Nat → Bool}, Mt E p l → Mt E (wo p v) l ∨ ∃ u l', u ≠ v ∧ p u = true ∧ p v = true ∧ E v u = true ∧ Mt E (wo (wo p v) u) l' ∧ l.length = l'.length + 1
  | [], _, _ => .inl trivial
  | (i, j) :: l, p, ⟨a, b, c, d, e⟩ => by
    by_cases h1 : i = v
    · subst h1
      exact .inr ⟨j, l, fun h => a h.symm, c, b, d, e, rfl⟩
    · by_cases h2 : j = v
      · subst h2
        refine .inr ⟨i, l, a, b, c, by rw [hE]; exact d, ?_, rfl⟩
        rw [wo_comm]; exact e
      · rcases Mt_out hE v e with h | ⟨u, l', q1, q2, q3, q4, q5, q6⟩
        · left
          refine ⟨a, wo_iff.2 ⟨b, h1⟩, wo_iff.2 ⟨c, h2⟩, d, ?_⟩
          rw [wo_comm p v i, wo_comm _ v j]; exact h
        · right
          rw [wo_iff, wo_iff] at q2 q3
          refine ⟨u, (i, j) :: l', q1, q2.1.1, q3.1.1, q4, ⟨a, wo_iff.2 ⟨wo_iff.2 ⟨b, h1⟩, fun h => q2.1.2 h.symm⟩, wo_iff.2 ⟨wo_iff.2 ⟨c, h2⟩, fun h => q2.2 h.symm⟩, d, ?_⟩, by simp only [List.length_cons]; omega⟩
          rw [wo_comm _ u i, wo_comm p v i, wo_comm _ u j, wo_comm _ v j]; exact q5
/-- So many, and no more. -/
def IsMax (E : Nat → Nat → Bool) (p : Nat → Bool) (m : Nat) : Prop := (∃ l, Mt E p l ∧ l.length = m) ∧ ∀ l, Mt E p l → l.length ≤ m
theorem isMax_eq {E : Nat → Nat → Bool} {p : Nat → Bool} {m k : Nat} (h : IsMax E p m) (h' : IsMax E p k) : m = k := by
  obtain ⟨l, a, rfl⟩ := h.1
  obtain ⟨l', a', rfl⟩ := h'.1
  exact Nat.le_antisymm (h'.2 l a) (h.2 l' a')
theorem isMax_no {E : Nat → Nat → Bool} {p : Nat → Bool} (h : ∀ i, p i = false) : IsMax E p 0 := by
  refine ⟨⟨[], trivial, rfl⟩, fun l hl => ?_⟩
  cases l with
  | nil => exact Nat.le_refl _
  | cons x l => obtain ⟨i, j⟩ := x; have := hl.2.1; rw [h] at this; cases this
theorem isMax_step {E : Nat → Nat → Bool} (hE : ∀ i j, E i j = E j i) {p : Nat → Bool} {v m : Nat} (hv : p v = true) (f : Nat → Nat) {m0 : Nat} (h0 : IsMax E (wo p v) m0)
    (hf : ∀ u, u ≠ v → p u = true → E v u = true → IsMax E (wo (wo p v) u) (f u)) (h1 : m0 ≤ m) (h2 : ∀ u, u ≠ v → p u = true → E v u = true → 1 + f u ≤ m)
    (h3 : m = m0 ∨ ∃ u, u ≠ v ∧ p u = true ∧ E v u = true ∧ m = 1 + f u) : IsMax E p m := by
  constructor
  · rcases h3 with rfl | ⟨u, a, b, c, rfl⟩
    · obtain ⟨l, hl, e⟩ := h0.1
      exact ⟨l, Mt_mono (fun i hi => (wo_iff.1 hi).1) hl, e⟩
    · obtain ⟨l, hl, e⟩ := (hf u a b c).1
      exact ⟨(v, u) :: l, ⟨fun h => a h.symm, hv, b, c, hl⟩, by rw [List.length_cons, e]; omega⟩
  · intro l hl
    rcases Mt_out hE v hl with h | ⟨u, l', a, b, _, c, d, e⟩
    · exact Nat.le_trans (h0.2 l h) h1
    · have := (hf u a b c).2 l' d
      have := h2 u a b c
      omega

/-- How many, by the greatest number of a set. -/
def dpP (E : Nat → Nat → Bool) : Nat → (Nat → Bool) → Nat
  | 0, _ => 0
  | a + 1, p => if p a then max ((List.range a).foldl (fun x b => if E a b && p b then max x (1 + dpP E a (wo p b)) else x) 0) (dpP E a p) else dpP E a p
def dpTo (E : Nat → Nat → Bool) (a k : Nat) (p : Nat → Bool) : Nat := (List.range k).foldl (fun x b => if E a b && p b then max x (1 + dpP E a (wo p b)) else x) 0
theorem dpTo_succ (E : Nat → Nat → Bool) (a k : Nat) (p : Nat → Bool) : dpTo E a (k + 1) p = if E a k && p k then max (dpTo E a k p) (1 + dpP E a (wo p k)) else dpTo E a k p := by
  unfold dpTo; rw [List.range_succ, List.foldl_append]; rfl
theorem dpP_succ (E : Nat → Nat → Bool) (a : Nat) (p : Nat → Bool) : dpP E (a + 1) p = if p a then max (dpTo E a a p) (dpP E a p) else dpP E a p := rfl
theorem dpP_congr (E : Nat → Nat → Bool) : ∀ (a : Nat) {p q : Nat → Bool}, (∀ i, i < a → p i = q i) → dpP E a p = dpP E a q ∧ ∀ k, k ≤ a → dpTo E a k p = dpTo E a k q
  | 0, p, q, h => ⟨rfl, fun k hk => by have : k = 0 := by omega
                                       subst this; rfl⟩
  | a + 1, p, q, h => by
    have ih := dpP_congr E a (p := p) (q := q) (fun i hi => h i (by omega))
    have ht : dpP E (a + 1) p = dpP E (a + 1) q := by rw [dpP_succ, dpP_succ, h a (by omega), ih.1, ih.2 a (Nat.le_refl _)]
    refine ⟨ht, fun k => ?_⟩
    induction k with
    | zero => intro _; rfl
    | succ k ihk =>
      intro hk
      rw [dpTo_succ, dpTo_succ, ihk (by omega), h k (by omega)]
      have ihw := dpP_congr E a (p := wo p k) (q := wo q k) (fun i hi => by unfold wo; rw [h i (by omega)])
      have : dpP E (a + 1) (wo p k) = dpP E (a + 1) (wo q k) := by
        rw [dpP_succ, dpP_succ, ihw.1, ihw.2 a (Nat.le_refl _)]
        unfold wo; rw [h a (by omega)]
      rw [this]
theorem dpTo_max (E : Nat → Nat → Bool) (a : Nat) (p : Nat → Bool) : ∀ k, (∀ b, b < k → E a b = true → p b = true → 1 + dpP E a (wo p b) ≤ dpTo E a k p) ∧ (dpTo E a k p = 0 ∨ ∃ b, b < k ∧ E a b = true ∧ p b = true ∧ dpTo E a k p = 1 + dpP E a (wo p b))
  | 0 => ⟨fun b h => by omega, .inl rfl⟩
  | k + 1 => by
    obtain ⟨h1, h2⟩ := dpTo_max E a p k
    rw [dpTo_succ]
    split
    · rename_i hc
      rw [Bool.and_eq_true] at hc
      refine ⟨fun b hb e1 e2 => ?_, ?_⟩
      · rcases Nat.lt_or_ge b k with h | h
        · have := h1 b h e1 e2; omega
        · have : b = k := by omega
          subst this; omega
      · rcases Nat.le_total (dpTo E a k p) (1 + dpP E a (wo p k)) with h | h
        · rw [Nat.max_eq_right h]; exact .inr ⟨k, by omega, hc.1, hc.2, rfl⟩
        · rw [Nat.max_eq_left h]
          rcases h2 with h2 | ⟨b, c, d, e, f⟩
          · exact .inl h2
          · exact .inr ⟨b, by omega, d, e, f⟩
    · rename_i hc
      refine ⟨fun b hb e1 e2 => ?_, ?_⟩
      · rcases Nat.lt_or_ge b k with h | h
        · exact h1 b h e1 e2
        · have : b = k := by omega
          subst this; rw [e1, e2] at hc; exact absurd rfl hc
      · rcases h2 with h2 | ⟨b, c, d, e, f⟩
        · exact .inl h2
        · exact .inr ⟨b, by omega, d, e, f⟩
/-- Below a number. -/
def blw (p : Nat → Bool) (a : Nat) : Nat → Bool := fun i => p i && decide (i < a)
theorem blw_iff {p : Nat → Bool} {a i : Nat} : blw p a i = true ↔ p i = true ∧ i < a := by simp [blw]
theorem dpP_max {E : Nat → Nat → Bool} (hE : ∀ i j, E i j = E j i) : ∀ (a : Nat) (p : Nat → Bool), IsMax E (blw p a) (dpP E a p)
  | 0, p => isMax_no fun i => by simp [blw]
  | a + 1, p => by
    have ih := dpP_max hE a
    have hw : wo (blw p (a + 1)) a = blw p a := by
      funext i; rw [Bool.eq_iff_iff, wo_iff, blw_iff, blw_iff]
      constructor
      · rintro ⟨⟨x, y⟩, z⟩; exact ⟨x, by omega⟩
      · rintro ⟨x, y⟩; exact ⟨⟨x, by omega⟩, by omega⟩
    rw [dpP_succ]
    cases hp : p a with
    | false =>
      have hb : blw p (a + 1) = blw p a := by
        funext i; rw [Bool.eq_iff_iff, blw_iff, blw_iff]
        constructor
        · rintro ⟨x, y⟩
          refine ⟨x, ?_⟩
          rcases Nat.lt_or_ge i a with h | h
          · exact h
          · rw [show i = a by omega, hp] at x; cases x
        · rintro ⟨x, y⟩; exact ⟨x, by omega⟩
      rw [hb]; exact ih p
    | true =>
      obtain ⟨d1, d2⟩ := dpTo_max E a p a
      refine isMax_step hE (v := a) (blw_iff.2 ⟨hp, by omega⟩) (fun u => dpP E a (wo p u)) (m0 := dpP E a p) (by rw [hw]; exact ih p) (fun u hu hpu hEu => ?_) (by simp only [if_true]; omega) (fun u hu hpu hEu => ?_) ?_
      · rw [hw]
        have : wo (blw p a) u = blw (wo p u) a := by
          funext i; rw [Bool.eq_iff_iff, wo_iff, blw_iff, blw_iff, wo_iff]
          constructor
          · rintro ⟨⟨x, y⟩, z⟩; exact ⟨⟨x, z⟩, y⟩
          · rintro ⟨⟨x, y⟩, z⟩; exact ⟨⟨x, z⟩, y⟩
        rw [this]; exact ih _
      · have hpu := blw_iff.1 hpu
        have := d1 u (by omega) hEu hpu.1
        simp only [if_true]; omega
      · simp only [if_true]
        rcases Nat.le_total (dpTo E a a p) (dpP E a p) with h | h
        · left; exact Nat.max_eq_right h
        · rw [Nat.max_eq_left h]
          rcases d2 with d2 | ⟨b, q1, q2, q3, q4⟩
          · left; omega
          · exact .inr ⟨b, by omega, blw_iff.2 ⟨q3, by omega⟩, q2, q4⟩
end Go.Oc

/- Part Gpn. -/
namespace Go.Oc
open Go Go.Pm
/-- The blanks that are left. -/
def free (n d : Nat) (U : Tk) : Nat → Bool := fun i => decide (n - d ≤ i) && decide (i < n) && !U.at i
theorem free_iff {n d : Nat} {U : Tk} {i : Nat} : free n d U i = true ↔ (n - d ≤ i ∧ i < n) ∧ U.at i = false := by simp [free]
/-- Is there an objective of two blanks? -/
def edgeE (E : Int → Int → Option Ob) (i j : Nat) : Bool := (E ((min i j : Nat) : Int) ((max i j : Nat) : Int)).isSome
theorem edgeE_comm (E : Int → Int → Option Ob) (i j : Nat) : edgeE E i j = edgeE E j i := by
  unfold edgeE; rw [Nat.min_comm, Nat.max_comm]
theorem edgeE_lt {E : Int → Int → Option Ob} {i j : Nat} (h : i < j) : edgeE E i j = (E i j).isSome := by
  unfold edgeE; rw [Nat.min_eq_left (by omega), Nat.max_eq_right (by omega)]
theorem free_same {n d : Nat} {U : Tk} (hd : d < n) (h : U.at (n - (d + 1)) = true) : free n (d + 1) U = free n d U := by
  funext i; rw [Bool.eq_iff_iff, free_iff, free_iff]
  constructor
  · rintro ⟨⟨a, b⟩, c⟩
    refine ⟨⟨?_, b⟩, c⟩
    rcases Nat.lt_or_ge i (n - d) with e | e
    · rw [show i = n - (d + 1) by omega, h] at c; cases c
    · exact e
  · rintro ⟨⟨a, b⟩, c⟩; exact ⟨⟨by omega, b⟩, c⟩
theorem free_wo {n d : Nat} {U : Tk} (hd : d < n) : wo (free n (d + 1) U) (n - (d + 1)) = free n d U := by
  funext i; rw [Bool.eq_iff_iff, wo_iff, free_iff, free_iff]
  constructor
  · rintro ⟨⟨⟨a, b⟩, c⟩, e⟩; exact ⟨⟨by omega, b⟩, c⟩
  · rintro ⟨⟨a, b⟩, c⟩; exact ⟨⟨⟨by omega, b⟩, c⟩, by omega⟩
theorem free_wo2 {n d u : Nat} {U : Tk} (hn : n ≤ 8) (hd : d < n) (hu : u < n) : wo (wo (free n (d + 1) U) (n - (d + 1))) u = free n d ((U.set (n - (d + 1))).set u) := by
  rw [free_wo hd]
  funext i; rw [Bool.eq_iff_iff, wo_iff, free_iff, free_iff, Tk.at_set _ (by omega), Tk.at_set _ (by omega)]
  simp only [Bool.or_eq_false_iff, beq_eq_false_iff_ne, ne_eq]
  constructor
  · rintro ⟨⟨⟨a, b⟩, c⟩, e⟩; exact ⟨⟨a, b⟩, ⟨c, by omega⟩, fun h => e h.symm⟩
  · rintro ⟨⟨a, b⟩, ⟨c, _⟩, e⟩; exact ⟨⟨⟨a, b⟩, c⟩, fun h => e h.symm⟩
theorem joinTo_max (E : Int → Int → Option Ob) (n d : Nat) (U : Tk) : ∀ j,
    (∀ i, i < j → (E ((n - (d + 1) : Nat) : Int) ((n - (d + 1) + 1 + i : Nat) : Int)).isSome = true → U.at (n - (d + 1) + 1 + i) = false → 1 + (joinP E n d ((U.set (n - (d + 1))).set (n - (d + 1) + 1 + i))).length ≤ (joinTo E n d U j).length) ∧
    (joinP E n d U).length ≤ (joinTo E n d U j).length ∧
    ((joinTo E n d U j).length = (joinP E n d U).length ∨ ∃ i, i < j ∧ (E ((n - (d + 1) : Nat) : Int) ((n - (d + 1) + 1 + i : Nat) : Int)).isSome = true ∧ U.at (n - (d + 1) + 1 + i) = false ∧ (joinTo E n d U j).length = 1 + (joinP E n d ((U.set (n - (d + 1))).set (n - (d + 1) + 1 + i))).length)
  | 0 => ⟨fun i h => by omega, Nat.le_refl _, .inl rfl⟩
  | j + 1 => by
    obtain ⟨h1, h2, h3⟩ := joinTo_max E n d U j
    rw [joinTo_succ]
    unfold joinStep
    have keep : ∀ X : List Ob, X = joinTo E n d U j → ((E ((n - (d + 1) : Nat) : Int) ((n - (d + 1) + 1 + j : Nat) : Int)).isSome = true → U.at (n - (d + 1) + 1 + j) = false → 1 + (joinP E n d ((U.set (n - (d + 1))).set (n - (d + 1) + 1 + j))).length ≤ X.length) →
      (∀ i, i < j + 1 → (E ((n - (d + 1) : Nat) : Int) ((n - (d + 1) + 1 + i : Nat) : Int)).isSome = true → U.at (n - (d + 1) + 1 + i) = false → 1 + (joinP E n d ((U.set (n - (d + 1))).set (n - (d + 1) + 1 + i))).length ≤ X.length) ∧
      (joinP E n d U).length ≤ X.length ∧
      (X.length = (joinP E n d U).length ∨ ∃ i, i < j + 1 ∧ (E ((n - (d + 1) : Nat) : Int) ((n - (d + 1) + 1 + i : Nat) : Int)).isSome = true ∧ U.at (n - (d + 1) + 1 + i) = false ∧ X.length = 1 + (joinP E n d ((U.set (n - (d + 1))).set (n - (d + 1) + 1 + i))).length) := by
      intro X hX hj
      subst hX
      refine ⟨fun i hi e1 e2 => ?_, h2, ?_⟩
      · rcases Nat.lt_or_ge i j with h | h
        · exact h1 i h e1 e2
        · have : i = j := by omega
          subst this; exact hj e1 e2
      · rcases h3 with h3 | ⟨i, a, b⟩
        · exact .inl h3
        · exact .inr ⟨i, by omega, b⟩
    cases hE : E ((n - (d + 1) : Nat) : Int) ((n - (d + 1) + 1 + j : Nat) : Int) with
    | none => exact keep _ rfl fun h => by rw [hE] at h; cases h
    | some o =>
      simp only
      split
      · rename_i hu
        exact keep _ rfl fun _ h => by rw [hu] at h; cases h
      · rename_i hu
        split
        · rename_i hl
          simp only [List.length_cons]
          refine ⟨fun i hi e1 e2 => ?_, by omega, .inr ⟨j, by omega, by rw [hE]; rfl, by simpa using hu, by omega⟩⟩
          rcases Nat.lt_or_ge i j with h | h
          · have := h1 i h e1 e2; omega
          · have : i = j := by omega
            subst this; omega
        · rename_i hl
          exact keep _ rfl fun _ _ => by omega
theorem joinP_succ (E : Int → Int → Option Ob) (n d : Nat) (U : Tk) : joinP E n (d + 1) U = if U.at (n - (d + 1)) then joinP E n d U else joinTo E n d U d := rfl
theorem joinP_max (E : Int → Int → Option Ob) {n : Nat} (hn : n ≤ 8) : ∀ (d : Nat) (U : Tk), d ≤ n → IsMax (edgeE E) (free n d U) (joinP E n d U).length
  | 0, U, _ => isMax_no fun i => by
      rw [← Bool.not_eq_true, free_iff]; omega
  | d + 1, U, hd => by
    have ih := joinP_max E hn d
    rw [joinP_succ]
    cases hu : U.at (n - (d + 1)) with
    | true => rw [free_same (by omega) hu]; exact ih U (by omega)
    | false =>
      simp only [Bool.false_eq_true, if_false]
      obtain ⟨j1, j2, j3⟩ := joinTo_max E n d U d
      refine isMax_step (edgeE_comm E) (v := n - (d + 1)) (free_iff.2 ⟨by omega, hu⟩) (fun u => (joinP E n d ((U.set (n - (d + 1))).set u)).length) (m0 := (joinP E n d U).length) (by rw [free_wo (by omega)]; exact ih U (by omega)) (fun u hu hpu hEu => ?_) j2 (fun u hne hpu hEu => ?_) ?_
      · have hpu := free_iff.1 hpu
        rw [free_wo2 hn (by omega) (by omega)]; exact ih _ (by omega)
      · have hpu := free_iff.1 hpu
        rw [edgeE_lt (by omega)] at hEu
        have := j1 (u - (n - (d + 1) + 1)) (by omega)
        rw [show n - (d + 1) + 1 + (u - (n - (d + 1) + 1)) = u by omega] at this
        exact this hEu hpu.2
      · rcases j3 with j3 | ⟨i, a, b, c, e⟩
        · exact .inl j3
        · refine .inr ⟨n - (d + 1) + 1 + i, by omega, free_iff.2 ⟨by omega, c⟩, ?_, e⟩
          rw [edgeE_lt (by omega)]; exact b

/-- Objectives that have no blank in common, of blanks that are left. -/
def DisO (o q : Ob) : Prop := o.f ≠ q.f ∧ o.f ≠ q.s ∧ o.s ≠ q.f ∧ o.s ≠ q.s
def ValO (G : Ob → Bool) (p : Nat → Bool) (l : List Ob) : Prop := (∀ o ∈ l, G o = true ∧ 0 ≤ o.f ∧ 0 ≤ o.s ∧ o.f ≠ o.s ∧ p o.f.toNat = true ∧ p o.s.toNat = true) ∧ l.Pairwise DisO
theorem ValO_nil (G : Ob → Bool) (p : Nat → Bool) : ValO G p [] := ⟨fun o h => (by cases h), List.Pairwise.nil⟩
theorem ValO_mono {G : Ob → Bool} {p q : Nat → Bool} (h : ∀ i, p i = true → q i = true) {l : List Ob} (hl : ValO G p l) : ValO G q l :=
  ⟨fun o ho => by obtain ⟨a, b, c, d, e, f⟩ := hl.1 o ho; exact ⟨a, b, c, d, h _ e, h _ f⟩, hl.2⟩
theorem ValO_cons {G : Ob → Bool} {p : Nat → Bool} {o : Ob} {l : List Ob} (h1 : G o = true) (h2 : 0 ≤ o.f) (h3 : 0 ≤ o.s) (h4 : o.f ≠ o.s) (h5 : p o.f.toNat = true) (h6 : p o.s.toNat = true) (hl : ValO G (wo (wo p o.f.toNat) o.s.toNat) l) : ValO G p (o :: l) := by
  refine ⟨fun q hq => ?_, List.Pairwise.cons (fun q hq => ?_) hl.2⟩
  · rcases List.mem_cons.1 hq with rfl | hq
    · exact ⟨h1, h2, h3, h4, h5, h6⟩
    · obtain ⟨a, b, c, d, e, f⟩ := hl.1 q hq
      exact ⟨a, b, c, d, (wo_iff.1 (wo_iff.1 e).1).1, (wo_iff.1 (wo_iff.1 f).1).1⟩
  · obtain ⟨a, b, c, d, e, f⟩ := hl.1 q hq
    have e1 := (wo_iff.1 (wo_iff.1 e).1).2
    have e2 := (wo_iff.1 e).2
    have f1 := (wo_iff.1 (wo_iff.1 f).1).2
    have f2 := (wo_iff.1 f).2
    unfold DisO
    omega
theorem ValO_Mt {G : Ob → Bool} {E : Nat → Nat → Bool} (hG : ∀ o, G o = true → 0 ≤ o.f → 0 ≤ o.s → o.f ≠ o.s → E o.f.toNat o.s.toNat = true) : ∀ {l : List Ob} {p : Nat → Bool}, ValO G p l → Mt E p (l.map fun o => (o.f.toNat, o.s.toNat))
  | [], _, _ => trivial
  | o :: l, p, ⟨h1, h2⟩ => by
    obtain ⟨a, b, c, d, e, f⟩ := h1 o (by simp)
    rw [List.pairwise_cons] at h2
    refine ⟨by omega, e, f, hG o a b c d, ValO_Mt hG ⟨fun q hq => ?_, h2.2⟩⟩
    obtain ⟨a', b', c', d', e', f'⟩ := h1 q (List.mem_cons_of_mem _ hq)
    have hd := h2.1 q hq
    unfold DisO at hd
    exact ⟨a', b', c', d', wo_iff.2 ⟨wo_iff.2 ⟨e', by omega⟩, by omega⟩, wo_iff.2 ⟨wo_iff.2 ⟨f', by omega⟩, by omega⟩⟩
theorem joinTo_val {E : Int → Int → Option Ob} {G : Ob → Bool} (hE : ∀ i j o, E i j = some o → G o = true ∧ min o.f o.s = i ∧ max o.f o.s = j) {n d : Nat} (hn : n ≤ 8) (hd : d < n) {U : Tk} (hU : U.at (n - (d + 1)) = false) (ih : ∀ U, ValO G (free n d U) (joinP E n d U)) : ∀ j, j ≤ d → ValO G (free n (d + 1) U) (joinTo E n d U j)
  | 0, _ => ValO_mono (fun i hi => by rw [free_iff] at hi ⊢; exact ⟨⟨by omega, hi.1.2⟩, hi.2⟩) (ih U)
  | j + 1, hj => by
    have ihj := joinTo_val hE hn hd hU ih j (by omega)
    rw [joinTo_succ]
    unfold joinStep
    cases hEo : E ((n - (d + 1) : Nat) : Int) ((n - (d + 1) + 1 + j : Nat) : Int) with
    | none => exact ihj
    | some o =>
      obtain ⟨h1, h2, h3⟩ := hE _ _ _ hEo
      simp only
      split
      · exact ihj
      · rename_i hu
        split
        · have hr := ih ((U.set (n - (d + 1))).set (n - (d + 1) + 1 + j))
          rw [← free_wo2 hn hd (show n - (d + 1) + 1 + j < n by omega)] at hr
          have pv : free n (d + 1) U (n - (d + 1)) = true := free_iff.2 ⟨by omega, hU⟩
          have pk : free n (d + 1) U (n - (d + 1) + 1 + j) = true := free_iff.2 ⟨by omega, by simpa using hu⟩
          rcases Int.lt_or_lt_of_ne (show o.f ≠ o.s by omega) with h | h
          · have e1 : o.f.toNat = n - (d + 1) := by omega
            have e2 : o.s.toNat = n - (d + 1) + 1 + j := by omega
            exact ValO_cons h1 (by omega) (by omega) (by omega) (by rw [e1]; exact pv) (by rw [e2]; exact pk) (by rw [e1, e2]; exact hr)
          · have e1 : o.s.toNat = n - (d + 1) := by omega
            have e2 : o.f.toNat = n - (d + 1) + 1 + j := by omega
            exact ValO_cons h1 (by omega) (by omega) (by omega) (by rw [e2]; exact pk) (by rw [e1]; exact pv) (by rw [e1, e2, wo_comm]; exact hr)
        · exact ihj
theorem joinP_val {E : Int → Int → Option Ob} {G : Ob → Bool} (hE : ∀ i j o, E i j = some o → G o = true ∧ min o.f o.s = i ∧ max o.f o.s = j) {n : Nat} (hn : n ≤ 8) : ∀ d, d ≤ n → ∀ U, ValO G (free n d U) (joinP E n d U)
  | 0, _, U => ValO_nil ..
  | d + 1, hd, U => by
    have ih := joinP_val hE hn d (by omega)
    rw [joinP_succ]
    cases hu : U.at (n - (d + 1)) with
    | true => rw [free_same (by omega) hu]; exact ih U
    | false => exact joinTo_val hE hn (by omega) hu ih d (Nat.le_refl _)

/-- Is an objective one of a stock, and good? -/
def goodO (B : List Blank) (T : List Span) (w : Want) (o : Ob) : Bool := obOk B.length T.length o && goodB (spansP B T o) w
theorem ofO_some {B : List Blank} {T : List Span} {w : Want} (hT : 1 ≤ T.length) {i j : Int} {o : Ob} (h : ofO B T w i j = some o) : goodO B T w o = true ∧ min o.f o.s = i ∧ max o.f o.s = j := by
  unfold ofO at h
  have h1 := List.find?_some h
  have h2 := List.mem_of_find?_eq_some h
  unfold isFor at h1
  simp only [Bool.and_eq_true, beq_iff_eq] at h1
  unfold goodO
  rw [obs_mem (by omega) h2, h1.2]
  exact ⟨rfl, h1.1.1, h1.1.2⟩
theorem ofO_edge {B : List Blank} {T : List Span} {w : Want} {o : Ob} (h : goodO B T w o = true) : edgeE (ofO B T w) o.f.toNat o.s.toNat = true := by
  unfold goodO at h
  rw [Bool.and_eq_true] at h
  have ho := obOk_iff.1 h.1
  unfold edgeE ofO
  rw [List.find?_isSome]
  refine ⟨o, obsA_mem h.1, ?_⟩
  unfold isFor
  rw [h.2]
  simp only [Bool.and_true, Bool.and_eq_true, beq_iff_eq]
  omega
theorem edge_ofO {B : List Blank} {T : List Span} {w : Want} (hT : 1 ≤ T.length) {i j : Nat} (h : edgeE (ofO B T w) i j = true) : ∃ o, goodO B T w o = true ∧ ((o.f = i ∧ o.s = j) ∨ (o.f = j ∧ o.s = i)) := by
  unfold edgeE at h
  obtain ⟨o, ho⟩ := Option.isSome_iff_exists.1 h
  obtain ⟨a, b, c⟩ := ofO_some hT ho
  exact ⟨o, a, by omega⟩
/-- So many objectives at once there can be. -/
theorem most_max {B : List Blank} (T : List Span) (w : Want) (hB : B.length ≤ 8) : IsMax (edgeE (ofO B T w)) (free B.length B.length Tk.none) (joinP (ofO B T w) B.length B.length Tk.none).length := joinP_max _ hB _ _ (Nat.le_refl _)
theorem most_val {B : List Blank} {T : List Span} (w : Want) (hB : B.length ≤ 8) (hT : 1 ≤ T.length) : ValO (goodO B T w) (free B.length B.length Tk.none) (joinP (ofO B T w) B.length B.length Tk.none) := joinP_val (fun i j o h => ofO_some hT h) hB _ (Nat.le_refl _) _
theorem none_at (i : Nat) : Tk.none.at i = false := by unfold Tk.at Tk.none; split <;> rfl
theorem free_all {n i : Nat} : free n n Tk.none i = true ↔ i < n := by rw [free_iff, none_at]; simp
/-- No other objectives at once are more. -/
theorem most_le {B : List Blank} {T : List Span} (w : Want) (hB : B.length ≤ 8) {l : List Ob} (h : ValO (goodO B T w) (free B.length B.length Tk.none) l) : l.length ≤ (joinP (ofO B T w) B.length B.length Tk.none).length := by
  have := (most_max T w hB).2 _ (ValO_Mt (fun o ho _ _ _ => ofO_edge ho) h)
  rwa [List.length_map] at this
theorem goodO_free {B : List Blank} {T : List Span} {w : Want} {o : Ob} (h : goodO B T w o = true) : (0 ≤ o.f ∧ 0 ≤ o.s ∧ o.f ≠ o.s) ∧ free B.length B.length Tk.none o.f.toNat = true ∧ free B.length B.length Tk.none o.s.toNat = true := by
  unfold goodO at h
  rw [Bool.and_eq_true] at h
  have ho := obOk_iff.1 h.1
  rw [free_all, free_all]
  omega
/-- The specification's number. -/
theorem dp_most {B : List Blank} (T : List Span) (w : Want) (hB : B.length ≤ 8) {p : Nat → Bool} (hp : ∀ i, i < B.length → p i = true) : dpP (edgeE (ofO B T w)) B.length p = (joinP (ofO B T w) B.length B.length Tk.none).length := by
  refine isMax_eq (dpP_max (edgeE_comm _) B.length p) ?_
  have : blw p B.length = free B.length B.length Tk.none := by
    funext i; rw [Bool.eq_iff_iff, blw_iff, free_all]
    exact ⟨fun h => h.2, fun h => ⟨hp i h, h⟩⟩
  rw [this]; exact most_max T w hB
theorem most_says {B : List Blank} {T : List Span} {w : Want} (hs : stockOk B T = true) (hw : wantOk w = true) : ∃ l, mostP B T w = (l, 0) ∧ ValO (goodO B T w) (free B.length B.length Tk.none) l ∧ l.length ≤ B.length ∧ ∀ q, ValO (goodO B T w) (free B.length B.length Tk.none) q → q.length ≤ l.length := by
  have hs' := stockOk_iff.1 hs
  unfold mostP
  rw [if_neg (by rw [hs]; decide), if_neg (by rw [hw]; decide)]
  exact ⟨_, rfl, most_val w (by omega) (by omega), joinP_len .., fun q hq => most_le w (by omega) hq⟩
theorem rowJ_row (l : List Ob) : IsRow Ob.cs (rowJ l) l := by
  unfold rowJ
  split
  · rename_i h; exact .inl ⟨rfl, List.length_eq_zero_iff.1 h⟩
  · exact .inr ⟨_, rfl⟩
end Go.Oc
