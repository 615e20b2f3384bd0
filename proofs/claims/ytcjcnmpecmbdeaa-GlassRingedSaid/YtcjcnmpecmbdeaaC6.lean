/- What the claim leans on, text 6. -/
import Derived.Test.YtcjcnmpecmbdeaaC5
set_option linter.unusedSimpArgs false
set_option linter.unusedVariables false

/- Part Gr. -/
namespace Go.Oc
open Go Go.Pm
def mOk (n m : Int) (o : Ob) (k : Nat) : Bool := (inB o.f 0 (n - 1) && inB o.s 0 (n - 1) && (o.f != o.s)) && ([o.a, o.b, o.c].take k).all fun t => inB t 0 (m - 1)
theorem mOk_succ (n m : Int) (o : Ob) {k : Nat} {t : Int} (h : [o.a, o.b, o.c][k]? = some t) : mOk n m o (k + 1) = (mOk n m o k && inB t 0 (m - 1)) := by
  unfold mOk; rw [take_all _ h, ← Bool.and_assoc]
theorem mOk_all (n m : Int) (o : Ob) : mOk n m o 3 = obOk n m o := by simp [mOk, obOk, Bool.and_assoc]
theorem mOk_no {n m : Int} {o : Ob} {k : Nat} (h : mOk n m o k = false) : obOk n m o = false := by
  rw [← mOk_all]
  unfold mOk at h ⊢
  rw [Bool.and_eq_false_iff] at h ⊢
  rcases h with h | h
  · exact .inl h
  · exact .inr (all_of_take (k := k) (by
      rw [show List.take 3 [o.a, o.b, o.c] = [o.a, o.b, o.c] from rfl]; exact h))
def pwW (n1 n2 f m b : Int) : Int := IntKind.i64.wrap (IntKind.i64.wrap (n1 * IntKind.i64.wrap (f - m)) + IntKind.i64.wrap (n2 * IntKind.i64.wrap (m - b)))
/-- A truth in which each number is at an end. -/
def hiOf (o : Ob) (bits : Nat) (t : Nat) : Bool := ((t : Int) == o.f && bits.testBit 0) || ((t : Int) == o.s && bits.testBit 1)
def cIx (B : List Blank) (o : Ob) (bits k : Nat) : List Int := (List.range k).map fun (t : Nat) => endS (blankAt B t).i (hiOf o bits t)
def cCo (B : List Blank) (o : Ob) (bits k : Nat) : List Int := (List.range k).map fun (t : Nat) => endS (blankAt B t).c (hiOf o bits t)
def cCu (T : List Span) (bits k : Nat) : List Int := (List.range k).map fun (t : Nat) => endS (toolAt T t) (bits.testBit (2 + t))
theorem cIx_succ (B : List Blank) (o : Ob) (bits k : Nat) : cIx B o bits (k + 1) = cIx B o bits k ++ [endS (blankAt B k).i (hiOf o bits k)] := by unfold cIx; rw [List.range_succ, List.map_append]; rfl
theorem cCo_succ (B : List Blank) (o : Ob) (bits k : Nat) : cCo B o bits (k + 1) = cCo B o bits k ++ [endS (blankAt B k).c (hiOf o bits k)] := by unfold cCo; rw [List.range_succ, List.map_append]; rfl
theorem cCu_succ (T : List Span) (bits k : Nat) : cCu T bits (k + 1) = cCu T bits k ++ [endS (toolAt T k) (bits.testBit (2 + k))] := by unfold cCu; rw [List.range_succ, List.map_append]; rfl
theorem cIx_len (B : List Blank) (o : Ob) (bits k : Nat) : (cIx B o bits k).length = k := by simp [cIx]
theorem cCo_len (B : List Blank) (o : Ob) (bits k : Nat) : (cCo B o bits k).length = k := by simp [cCo]
theorem cCu_len (T : List Span) (bits k : Nat) : (cCu T bits k).length = k := by simp [cCu]
end Go.Oc
namespace Go.Proofs.Ytcjcnmpecmbdeaa
open Go.RowKit Go.Pm Go.Oc
set_option maxRecDepth 100000
set_option linter.unusedVariables false
set_option maxHeartbeats 4000000

theorem r4Wish_c (w : Want) : PCalls Try.prog 70 [w.t] (.bool (wantOk w)) := by
  refine pcalls_by Try.mixes spB3_ok (fn := Try.f70) Try.func70 rfl (by kernel_rfl) (by show 1 ≤ _; decide) ?_
  simp (decide := true) (maxSteps := 4000000) only [go_sem, Nat.reduceAdd, Nat.reduceSub, Nat.reduceMul, Nat.reduceDiv, Nat.reduceMod, Nat.reduceLT, Nat.reduceLeDiff, Nat.reduceEqDiff, Nat.reduceBEq, Nat.reduceBNe, Nat.reduceGT, Int.reduceAdd, Int.reduceSub, Int.reduceMul, Int.reduceNeg, Int.reduceLT, Int.reduceLE, Int.reduceEq, Int.reduceNe, Int.reduceBEq, Int.reduceBNe, Int.reduceToNat, Int.reduceGT, Int.reduceGE, ↓reduceIte, decide_true, decide_false, eq_self, Nat.mul_one, Nat.zero_mul, Nat.one_mul, Int.le_refl, Nat.le_refl, Int.cast_ofNat_Int, Try.f70, Want.t, wantOk]
theorem r4End_c (s : Span) (b : Bool) : PCalls Try.prog 110 [s.t, .bool b] (.int .i64 (endS s b)) := by
  refine pcalls_by Try.mixes noSpec_ok (fn := Try.f110) Try.func110 rfl (by kernel_rfl) (by show 2 ≤ _; decide) ?_
  cases b <;> simp (decide := true) (maxSteps := 4000000) only [go_sem, Nat.reduceAdd, Nat.reduceSub, Nat.reduceMul, Nat.reduceDiv, Nat.reduceMod, Nat.reduceLT, Nat.reduceLeDiff, Nat.reduceEqDiff, Nat.reduceBEq, Nat.reduceBNe, Nat.reduceGT, Int.reduceAdd, Int.reduceSub, Int.reduceMul, Int.reduceNeg, Int.reduceLT, Int.reduceLE, Int.reduceEq, Int.reduceNe, Int.reduceBEq, Int.reduceBNe, Int.reduceToNat, Int.reduceGT, Int.reduceGE, ↓reduceIte, decide_true, decide_false, eq_self, Nat.mul_one, Nat.zero_mul, Nat.one_mul, Int.le_refl, Nat.le_refl, Int.cast_ofNat_Int, Try.f110, Span.t, Span.cs, endS]
theorem r4Worst_c (c : Span) : PCalls Try.prog 94 [c.t] (.int .i64 (max (max c.lo (IntKind.i64.wrap (0 - c.lo))) (max c.hi (IntKind.i64.wrap (0 - c.hi))))) := by
  refine pcalls_by Try.mixes spB3_ok (fn := Try.f94) Try.func94 rfl (by kernel_rfl) (by show 1 ≤ _; decide) ?_
  simp (decide := true) (maxSteps := 4000000) only [go_sem, Nat.reduceAdd, Nat.reduceSub, Nat.reduceMul, Nat.reduceDiv, Nat.reduceMod, Nat.reduceLT, Nat.reduceLeDiff, Nat.reduceEqDiff, Nat.reduceBEq, Nat.reduceBNe, Nat.reduceGT, Int.reduceAdd, Int.reduceSub, Int.reduceMul, Int.reduceNeg, Int.reduceLT, Int.reduceLE, Int.reduceEq, Int.reduceNe, Int.reduceBEq, Int.reduceBNe, Int.reduceToNat, Int.reduceGT, Int.reduceGE, ↓reduceIte, decide_true, decide_false, eq_self, Nat.mul_one, Nat.zero_mul, Nat.one_mul, Int.le_refl, Nat.le_refl, Int.cast_ofNat_Int, Try.f94, Span.t, Span.cs]
noncomputable def rWish : List TV → Option TV
  | [.agg [.int .i64 a, .int .i64 b, .int .i64 c]] => some (.bool (wantOk ⟨⟨a, b⟩, c⟩))
  | _ => none
theorem rWish_ok : ∀ xs r, rWish xs = some r → PCalls Try.prog 70 xs r := by
  intro xs r h
  unfold rWish at h
  split at h
  · cases h; exact r4Wish_c ⟨⟨_, _⟩, _⟩
  · cases h
attribute [go_sem] rWish
noncomputable def rEnd : List TV → Option TV
  | [.agg [.int .i64 x, .int .i64 y], .bool b] => some (.int .i64 (endS ⟨x, y⟩ b))
  | _ => none
theorem rEnd_ok : ∀ xs r, rEnd xs = some r → PCalls Try.prog 110 xs r := by
  intro xs r h
  unfold rEnd at h
  split at h
  · cases h; exact r4End_c ⟨_, _⟩ _
  · cases h
attribute [go_sem] rEnd
noncomputable def rWorst : List TV → Option TV
  | [.agg [.int .i64 a, .int .i64 b]] => some (.int .i64 (max (max a (IntKind.i64.wrap (0 - a))) (max b (IntKind.i64.wrap (0 - b)))))
  | _ => none
theorem rWorst_ok : ∀ xs r, rWorst xs = some r → PCalls Try.prog 94 xs r := by
  intro xs r h
  unfold rWorst at h
  split at h
  · cases h; exact r4Worst_c ⟨_, _⟩
  · cases h
attribute [go_sem] rWorst
noncomputable def spR1 : Pm.Spec := (((spB3.one 19 glCheck).one 70 rWish).one 110 rEnd).one 94 rWorst
@[go_sem] theorem spR1_p (f : FuncId) (xs : List TV) : spR1.p f xs = Pm.Spec.p ((((spB3.one 19 glCheck).one 70 rWish).one 110 rEnd).one 94 rWorst) f xs := rfl
@[go_sem] theorem spR1_h (f : FuncId) (ps : List PV) (hl : List PO) : spR1.h f ps hl = Pm.Spec.h ((((spB3.one 19 glCheck).one 70 rWish).one 110 rEnd).one 94 rWorst) f ps hl := rfl
@[go_sem] theorem spR1_fz (f : FuncId) : spR1.fz f = Pm.Spec.fz ((((spB3.one 19 glCheck).one 70 rWish).one 110 rEnd).one 94 rWorst) f := rfl
@[go_sem] theorem spR1_fr (f : FuncId) : spR1.fr f = Pm.Spec.fr ((((spB3.one 19 glCheck).one 70 rWish).one 110 rEnd).one 94 rWorst) f := rfl
@[go_sem] theorem spR1_mu (t : TypeId) : spR1.mu t = Pm.Spec.mu ((((spB3.one 19 glCheck).one 70 rWish).one 110 rEnd).one 94 rWorst) t := rfl
theorem spR1_ok : SpecOk Try.prog spR1 := Spec.one_ok rWorst_ok (Spec.one_ok rEnd_ok (Spec.one_ok rWish_ok (Spec.one_ok r4Check_ok spB3_ok)))

theorem r4Made_c {B : List Blank} {T : List Span} {sB sT : TV} (hB : IsRow Blank.cs sB B) (hT : IsRow Span.cs sT T) (hlB : B.length ≤ 5864062014806) (hlT : T.length ≤ 9000000000000) (o : Ob) : PCalls Try.prog 88 [.agg [sB, sT], o.t] (.bool (obOk B.length T.length o)) := by
  have w0 : IntKind.i64.wrap (-1) = -1 := rfl
  have w1 : IntKind.i64.wrap ((B.length : Int) - 1) = (B.length : Int) - 1 := wrap_in (by omega) (by omega)
  have w2 : IntKind.i64.wrap ((T.length : Int) - 1) = (T.length : Int) - 1 := wrap_in (by omega) (by omega)
  refine pcalls_by Try.mixes spR1_ok (fn := Try.f88) Try.func88 rfl (by kernel_rfl) (by show 2 ≤ _; decide) ?_
  by_cases hlb : 1 ≤ B.length
  · obtain ⟨fB, rfl⟩ := hB.ne hlb
    cases h1 : inB o.f 0 ((B.length : Int) - 1) <;> cases h2 : inB o.s 0 ((B.length : Int) - 1) <;> cases h3 : (o.f != o.s)
    case true.true.true =>
      have hz : mOk B.length T.length o 0 = true := by simp [mOk, h1, h2, h3]
      simp (decide := true) (maxSteps := 4000000) only [go_sem, Nat.reduceAdd, Nat.reduceSub, Nat.reduceMul, Nat.reduceDiv, Nat.reduceMod, Nat.reduceLT, Nat.reduceLeDiff, Nat.reduceEqDiff, Nat.reduceBEq, Nat.reduceBNe, Nat.reduceGT, Int.reduceAdd, Int.reduceSub, Int.reduceMul, Int.reduceNeg, Int.reduceLT, Int.reduceLE, Int.reduceEq, Int.reduceNe, Int.reduceBEq, Int.reduceBNe, Int.reduceToNat, Int.reduceGT, Int.reduceGE, ↓reduceIte, decide_true, decide_false, eq_self, Nat.mul_one, Nat.zero_mul, Nat.one_mul, Int.le_refl, Nat.le_refl, Int.cast_ofNat_Int, Try.f88, Ob.t, Ob.cs, w1, h1, h2, h3]
      refine pwpC_loopU (A := { k : Nat // k ≤ 3 }) [2, 3] (fun k => [(6, .t (.int .i64 k.1)), (5, .t (.bool (mOk B.length T.length o k.1)))]) (fun _ => []) (fun k => 3 - k.1) ⟨0, by omega⟩ (by decide) (fun _ => by rfl) ?_ fun Q1 hQ1 ⟨k, hk⟩ I1 hI1 => ?_
      · simp (decide := true) (maxSteps := 4000000) only [go_sem, Nat.reduceAdd, Nat.reduceSub, Nat.reduceMul, Nat.reduceDiv, Nat.reduceMod, Nat.reduceLT, Nat.reduceLeDiff, Nat.reduceEqDiff, Nat.reduceBEq, Nat.reduceBNe, Nat.reduceGT, Int.reduceAdd, Int.reduceSub, Int.reduceMul, Int.reduceNeg, Int.reduceLT, Int.reduceLE, Int.reduceEq, Int.reduceNe, Int.reduceBEq, Int.reduceBNe, Int.reduceToNat, Int.reduceGT, Int.reduceGE, ↓reduceIte, decide_true, decide_false, eq_self, Nat.mul_one, Nat.zero_mul, Nat.one_mul, Int.le_refl, Nat.le_refl, Int.cast_ofNat_Int, hz]
      · rcases (Bool.eq_false_or_eq_true (mOk B.length T.length o k)).symm with hok | hok
        · have hno := mOk_no hok
          simp (decide := true) (maxSteps := 4000000) only [go_sem, Nat.reduceAdd, Nat.reduceSub, Nat.reduceMul, Nat.reduceDiv, Nat.reduceMod, Nat.reduceLT, Nat.reduceLeDiff, Nat.reduceEqDiff, Nat.reduceBEq, Nat.reduceBNe, Nat.reduceGT, Int.reduceAdd, Int.reduceSub, Int.reduceMul, Int.reduceNeg, Int.reduceLT, Int.reduceLE, Int.reduceEq, Int.reduceNe, Int.reduceBEq, Int.reduceBNe, Int.reduceToNat, Int.reduceGT, Int.reduceGE, ↓reduceIte, decide_true, decide_false, eq_self, Nat.mul_one, Nat.zero_mul, Nat.one_mul, Int.le_refl, Nat.le_refl, Int.cast_ofNat_Int, hok]
          refine hQ1 _ _ ?_
          simp (decide := true) (maxSteps := 4000000) only [go_sem, Nat.reduceAdd, Nat.reduceSub, Nat.reduceMul, Nat.reduceDiv, Nat.reduceMod, Nat.reduceLT, Nat.reduceLeDiff, Nat.reduceEqDiff, Nat.reduceBEq, Nat.reduceBNe, Nat.reduceGT, Int.reduceAdd, Int.reduceSub, Int.reduceMul, Int.reduceNeg, Int.reduceLT, Int.reduceLE, Int.reduceEq, Int.reduceNe, Int.reduceBEq, Int.reduceBNe, Int.reduceToNat, Int.reduceGT, Int.reduceGE, ↓reduceIte, decide_true, decide_false, eq_self, Nat.mul_one, Nat.zero_mul, Nat.one_mul, Int.le_refl, Nat.le_refl, Int.cast_ofNat_Int, hno]
        · rcases (show k = 0 ∨ k = 1 ∨ k = 2 ∨ k = 3 by omega) with rfl | rfl | rfl | rfl
          · have hsu := mOk_succ (B.length : Int) T.length o (k := 0) rfl
            rw [hok, Bool.true_and] at hsu
            rcases hT with ⟨rfl, rfl⟩ | ⟨fT, rfl⟩
            · have h4 : inB o.a 0 (-1) = false := by unfold inB; simp; omega
              simp only [List.length_nil, Int.cast_ofNat_Int, Int.reduceSub, h4] at hsu hok
              simp (decide := true) (maxSteps := 4000000) only [go_sem, Nat.reduceAdd, Nat.reduceSub, Nat.reduceMul, Nat.reduceDiv, Nat.reduceMod, Nat.reduceLT, Nat.reduceLeDiff, Nat.reduceEqDiff, Nat.reduceBEq, Nat.reduceBNe, Nat.reduceGT, Int.reduceAdd, Int.reduceSub, Int.reduceMul, Int.reduceNeg, Int.reduceLT, Int.reduceLE, Int.reduceEq, Int.reduceNe, Int.reduceBEq, Int.reduceBNe, Int.reduceToNat, Int.reduceGT, Int.reduceGE, ↓reduceIte, decide_true, decide_false, eq_self, Nat.mul_one, Nat.zero_mul, Nat.one_mul, Int.le_refl, Nat.le_refl, Int.cast_ofNat_Int, hok, w0, h4, List.length_nil]
              refine hI1 _ ⟨1, by omega⟩ (by simp) ?_
              simp (decide := true) (maxSteps := 4000000) only [go_sem, Nat.reduceAdd, Nat.reduceSub, Nat.reduceMul, Nat.reduceDiv, Nat.reduceMod, Nat.reduceLT, Nat.reduceLeDiff, Nat.reduceEqDiff, Nat.reduceBEq, Nat.reduceBNe, Nat.reduceGT, Int.reduceAdd, Int.reduceSub, Int.reduceMul, Int.reduceNeg, Int.reduceLT, Int.reduceLE, Int.reduceEq, Int.reduceNe, Int.reduceBEq, Int.reduceBNe, Int.reduceToNat, Int.reduceGT, Int.reduceGE, ↓reduceIte, decide_true, decide_false, eq_self, Nat.mul_one, Nat.zero_mul, Nat.one_mul, Int.le_refl, Nat.le_refl, Int.cast_ofNat_Int, hsu, List.length_nil]
            · simp (decide := true) (maxSteps := 4000000) only [go_sem, Nat.reduceAdd, Nat.reduceSub, Nat.reduceMul, Nat.reduceDiv, Nat.reduceMod, Nat.reduceLT, Nat.reduceLeDiff, Nat.reduceEqDiff, Nat.reduceBEq, Nat.reduceBNe, Nat.reduceGT, Int.reduceAdd, Int.reduceSub, Int.reduceMul, Int.reduceNeg, Int.reduceLT, Int.reduceLE, Int.reduceEq, Int.reduceNe, Int.reduceBEq, Int.reduceBNe, Int.reduceToNat, Int.reduceGT, Int.reduceGE, ↓reduceIte, decide_true, decide_false, eq_self, Nat.mul_one, Nat.zero_mul, Nat.one_mul, Int.le_refl, Nat.le_refl, Int.cast_ofNat_Int, hok, w2]
              refine hI1 _ ⟨1, by omega⟩ (by simp) ?_
              simp (decide := true) (maxSteps := 4000000) only [go_sem, Nat.reduceAdd, Nat.reduceSub, Nat.reduceMul, Nat.reduceDiv, Nat.reduceMod, Nat.reduceLT, Nat.reduceLeDiff, Nat.reduceEqDiff, Nat.reduceBEq, Nat.reduceBNe, Nat.reduceGT, Int.reduceAdd, Int.reduceSub, Int.reduceMul, Int.reduceNeg, Int.reduceLT, Int.reduceLE, Int.reduceEq, Int.reduceNe, Int.reduceBEq, Int.reduceBNe, Int.reduceToNat, Int.reduceGT, Int.reduceGE, ↓reduceIte, decide_true, decide_false, eq_self, Nat.mul_one, Nat.zero_mul, Nat.one_mul, Int.le_refl, Nat.le_refl, Int.cast_ofNat_Int, hsu]
          · have hsu := mOk_succ (B.length : Int) T.length o (k := 1) rfl
            rw [hok, Bool.true_and] at hsu
            rcases hT with ⟨rfl, rfl⟩ | ⟨fT, rfl⟩
            · have h4 : inB o.b 0 (-1) = false := by unfold inB; simp; omega
              simp only [List.length_nil, Int.cast_ofNat_Int, Int.reduceSub, h4] at hsu hok
              simp (decide := true) (maxSteps := 4000000) only [go_sem, Nat.reduceAdd, Nat.reduceSub, Nat.reduceMul, Nat.reduceDiv, Nat.reduceMod, Nat.reduceLT, Nat.reduceLeDiff, Nat.reduceEqDiff, Nat.reduceBEq, Nat.reduceBNe, Nat.reduceGT, Int.reduceAdd, Int.reduceSub, Int.reduceMul, Int.reduceNeg, Int.reduceLT, Int.reduceLE, Int.reduceEq, Int.reduceNe, Int.reduceBEq, Int.reduceBNe, Int.reduceToNat, Int.reduceGT, Int.reduceGE, ↓reduceIte, decide_true, decide_false, eq_self, Nat.mul_one, Nat.zero_mul, Nat.one_mul, Int.le_refl, Nat.le_refl, Int.cast_ofNat_Int, hok, w0, h4, List.length_nil]
              refine hI1 _ ⟨2, by omega⟩ (by simp) ?_
              simp (decide := true) (maxSteps := 4000000) only [go_sem, Nat.reduceAdd, Nat.reduceSub, Nat.reduceMul, Nat.reduceDiv, Nat.reduceMod, Nat.reduceLT, Nat.reduceLeDiff, Nat.reduceEqDiff, Nat.reduceBEq, Nat.reduceBNe, Nat.reduceGT, Int.reduceAdd, Int.reduceSub, Int.reduceMul, Int.reduceNeg, Int.reduceLT, Int.reduceLE, Int.reduceEq, Int.reduceNe, Int.reduceBEq, Int.reduceBNe, Int.reduceToNat, Int.reduceGT, Int.reduceGE, ↓reduceIte, decide_true, decide_false, eq_self, Nat.mul_one, Nat.zero_mul, Nat.one_mul, Int.le_refl, Nat.le_refl, Int.cast_ofNat_Int, hsu, List.length_nil]
            · simp (decide := true) (maxSteps := 4000000) only [go_sem, Nat.reduceAdd, Nat.reduceSub, Nat.reduceMul, Nat.reduceDiv, Nat.reduceMod, Nat.reduceLT, Nat.reduceLeDiff, Nat.reduceEqDiff, Nat.reduceBEq, Nat.reduceBNe, Nat.reduceGT, Int.reduceAdd, Int.reduceSub, Int.reduceMul, Int.reduceNeg, Int.reduceLT, Int.reduceLE, Int.reduceEq, Int.reduceNe, Int.reduceBEq, Int.reduceBNe, Int.reduceToNat, Int.reduceGT, Int.reduceGE, ↓reduceIte, decide_true, decide_false, eq_self, Nat.mul_one, Nat.zero_mul, Nat.one_mul, Int.le_refl, Nat.le_refl, Int.cast_ofNat_Int, hok, w2]
              refine hI1 _ ⟨2, by omega⟩ (by simp) ?_
              simp (decide := true) (maxSteps := 4000000) only [go_sem, Nat.reduceAdd, Nat.reduceSub, Nat.reduceMul, Nat.reduceDiv, Nat.reduceMod, Nat.reduceLT, Nat.reduceLeDiff, Nat.reduceEqDiff, Nat.reduceBEq, Nat.reduceBNe, Nat.reduceGT, Int.reduceAdd, Int.reduceSub, Int.reduceMul, Int.reduceNeg, Int.reduceLT, Int.reduceLE, Int.reduceEq, Int.reduceNe, Int.reduceBEq, Int.reduceBNe, Int.reduceToNat, Int.reduceGT, Int.reduceGE, ↓reduceIte, decide_true, decide_false, eq_self, Nat.mul_one, Nat.zero_mul, Nat.one_mul, Int.le_refl, Nat.le_refl, Int.cast_ofNat_Int, hsu]
          · have hsu := mOk_succ (B.length : Int) T.length o (k := 2) rfl
            rw [hok, Bool.true_and] at hsu
            rcases hT with ⟨rfl, rfl⟩ | ⟨fT, rfl⟩
            · have h4 : inB o.c 0 (-1) = false := by unfold inB; simp; omega
              simp only [List.length_nil, Int.cast_ofNat_Int, Int.reduceSub, h4] at hsu hok
              simp (decide := true) (maxSteps := 4000000) only [go_sem, Nat.reduceAdd, Nat.reduceSub, Nat.reduceMul, Nat.reduceDiv, Nat.reduceMod, Nat.reduceLT, Nat.reduceLeDiff, Nat.reduceEqDiff, Nat.reduceBEq, Nat.reduceBNe, Nat.reduceGT, Int.reduceAdd, Int.reduceSub, Int.reduceMul, Int.reduceNeg, Int.reduceLT, Int.reduceLE, Int.reduceEq, Int.reduceNe, Int.reduceBEq, Int.reduceBNe, Int.reduceToNat, Int.reduceGT, Int.reduceGE, ↓reduceIte, decide_true, decide_false, eq_self, Nat.mul_one, Nat.zero_mul, Nat.one_mul, Int.le_refl, Nat.le_refl, Int.cast_ofNat_Int, hok, w0, h4, List.length_nil]
              refine hI1 _ ⟨3, by omega⟩ (by simp) ?_
              simp (decide := true) (maxSteps := 4000000) only [go_sem, Nat.reduceAdd, Nat.reduceSub, Nat.reduceMul, Nat.reduceDiv, Nat.reduceMod, Nat.reduceLT, Nat.reduceLeDiff, Nat.reduceEqDiff, Nat.reduceBEq, Nat.reduceBNe, Nat.reduceGT, Int.reduceAdd, Int.reduceSub, Int.reduceMul, Int.reduceNeg, Int.reduceLT, Int.reduceLE, Int.reduceEq, Int.reduceNe, Int.reduceBEq, Int.reduceBNe, Int.reduceToNat, Int.reduceGT, Int.reduceGE, ↓reduceIte, decide_true, decide_false, eq_self, Nat.mul_one, Nat.zero_mul, Nat.one_mul, Int.le_refl, Nat.le_refl, Int.cast_ofNat_Int, hsu, List.length_nil]
            · simp (decide := true) (maxSteps := 4000000) only [go_sem, Nat.reduceAdd, Nat.reduceSub, Nat.reduceMul, Nat.reduceDiv, Nat.reduceMod, Nat.reduceLT, Nat.reduceLeDiff, Nat.reduceEqDiff, Nat.reduceBEq, Nat.reduceBNe, Nat.reduceGT, Int.reduceAdd, Int.reduceSub, Int.reduceMul, Int.reduceNeg, Int.reduceLT, Int.reduceLE, Int.reduceEq, Int.reduceNe, Int.reduceBEq, Int.reduceBNe, Int.reduceToNat, Int.reduceGT, Int.reduceGE, ↓reduceIte, decide_true, decide_false, eq_self, Nat.mul_one, Nat.zero_mul, Nat.one_mul, Int.le_refl, Nat.le_refl, Int.cast_ofNat_Int, hok, w2]
              refine hI1 _ ⟨3, by omega⟩ (by simp) ?_
              simp (decide := true) (maxSteps := 4000000) only [go_sem, Nat.reduceAdd, Nat.reduceSub, Nat.reduceMul, Nat.reduceDiv, Nat.reduceMod, Nat.reduceLT, Nat.reduceLeDiff, Nat.reduceEqDiff, Nat.reduceBEq, Nat.reduceBNe, Nat.reduceGT, Int.reduceAdd, Int.reduceSub, Int.reduceMul, Int.reduceNeg, Int.reduceLT, Int.reduceLE, Int.reduceEq, Int.reduceNe, Int.reduceBEq, Int.reduceBNe, Int.reduceToNat, Int.reduceGT, Int.reduceGE, ↓reduceIte, decide_true, decide_false, eq_self, Nat.mul_one, Nat.zero_mul, Nat.one_mul, Int.le_refl, Nat.le_refl, Int.cast_ofNat_Int, hsu]
          · have hal := mOk_all (B.length : Int) T.length o
            rw [hok] at hal
            simp (decide := true) (maxSteps := 4000000) only [go_sem, Nat.reduceAdd, Nat.reduceSub, Nat.reduceMul, Nat.reduceDiv, Nat.reduceMod, Nat.reduceLT, Nat.reduceLeDiff, Nat.reduceEqDiff, Nat.reduceBEq, Nat.reduceBNe, Nat.reduceGT, Int.reduceAdd, Int.reduceSub, Int.reduceMul, Int.reduceNeg, Int.reduceLT, Int.reduceLE, Int.reduceEq, Int.reduceNe, Int.reduceBEq, Int.reduceBNe, Int.reduceToNat, Int.reduceGT, Int.reduceGE, ↓reduceIte, decide_true, decide_false, eq_self, Nat.mul_one, Nat.zero_mul, Nat.one_mul, Int.le_refl, Nat.le_refl, Int.cast_ofNat_Int, hok]
            refine hQ1 _ _ ?_
            simp (decide := true) (maxSteps := 4000000) only [go_sem, Nat.reduceAdd, Nat.reduceSub, Nat.reduceMul, Nat.reduceDiv, Nat.reduceMod, Nat.reduceLT, Nat.reduceLeDiff, Nat.reduceEqDiff, Nat.reduceBEq, Nat.reduceBNe, Nat.reduceGT, Int.reduceAdd, Int.reduceSub, Int.reduceMul, Int.reduceNeg, Int.reduceLT, Int.reduceLE, Int.reduceEq, Int.reduceNe, Int.reduceBEq, Int.reduceBNe, Int.reduceToNat, Int.reduceGT, Int.reduceGE, ↓reduceIte, decide_true, decide_false, eq_self, Nat.mul_one, Nat.zero_mul, Nat.one_mul, Int.le_refl, Nat.le_refl, Int.cast_ofNat_Int, hok, ← hal]
    all_goals
      have hno : obOk B.length T.length o = false := mOk_no (k := 0) (by simp [mOk, h1, h2, h3])
      simp (decide := true) (maxSteps := 4000000) only [go_sem, Nat.reduceAdd, Nat.reduceSub, Nat.reduceMul, Nat.reduceDiv, Nat.reduceMod, Nat.reduceLT, Nat.reduceLeDiff, Nat.reduceEqDiff, Nat.reduceBEq, Nat.reduceBNe, Nat.reduceGT, Int.reduceAdd, Int.reduceSub, Int.reduceMul, Int.reduceNeg, Int.reduceLT, Int.reduceLE, Int.reduceEq, Int.reduceNe, Int.reduceBEq, Int.reduceBNe, Int.reduceToNat, Int.reduceGT, Int.reduceGE, ↓reduceIte, decide_true, decide_false, eq_self, Nat.mul_one, Nat.zero_mul, Nat.one_mul, Int.le_refl, Nat.le_refl, Int.cast_ofNat_Int, Try.f88, Ob.t, Ob.cs, w1, h1, h2, h3]
      refine pwpC_loopU (A := Unit) [2, 3] (fun _ => [(6, .t (.int .i64 0)), (5, .t (.bool false))]) (fun _ => []) (fun _ => 0) () (by decide) (fun _ => by rfl) ?_ fun Q1 hQ1 _ I1 hI1 => ?_
      · simp (decide := true) (maxSteps := 4000000) only [go_sem, Nat.reduceAdd, Nat.reduceSub, Nat.reduceMul, Nat.reduceDiv, Nat.reduceMod, Nat.reduceLT, Nat.reduceLeDiff, Nat.reduceEqDiff, Nat.reduceBEq, Nat.reduceBNe, Nat.reduceGT, Int.reduceAdd, Int.reduceSub, Int.reduceMul, Int.reduceNeg, Int.reduceLT, Int.reduceLE, Int.reduceEq, Int.reduceNe, Int.reduceBEq, Int.reduceBNe, Int.reduceToNat, Int.reduceGT, Int.reduceGE, ↓reduceIte, decide_true, decide_false, eq_self, Nat.mul_one, Nat.zero_mul, Nat.one_mul, Int.le_refl, Nat.le_refl, Int.cast_ofNat_Int]
      · simp (decide := true) (maxSteps := 4000000) only [go_sem, Nat.reduceAdd, Nat.reduceSub, Nat.reduceMul, Nat.reduceDiv, Nat.reduceMod, Nat.reduceLT, Nat.reduceLeDiff, Nat.reduceEqDiff, Nat.reduceBEq, Nat.reduceBNe, Nat.reduceGT, Int.reduceAdd, Int.reduceSub, Int.reduceMul, Int.reduceNeg, Int.reduceLT, Int.reduceLE, Int.reduceEq, Int.reduceNe, Int.reduceBEq, Int.reduceBNe, Int.reduceToNat, Int.reduceGT, Int.reduceGE, ↓reduceIte, decide_true, decide_false, eq_self, Nat.mul_one, Nat.zero_mul, Nat.one_mul, Int.le_refl, Nat.le_refl, Int.cast_ofNat_Int]
        refine hQ1 _ _ ?_
        simp (decide := true) (maxSteps := 4000000) only [go_sem, Nat.reduceAdd, Nat.reduceSub, Nat.reduceMul, Nat.reduceDiv, Nat.reduceMod, Nat.reduceLT, Nat.reduceLeDiff, Nat.reduceEqDiff, Nat.reduceBEq, Nat.reduceBNe, Nat.reduceGT, Int.reduceAdd, Int.reduceSub, Int.reduceMul, Int.reduceNeg, Int.reduceLT, Int.reduceLE, Int.reduceEq, Int.reduceNe, Int.reduceBEq, Int.reduceBNe, Int.reduceToNat, Int.reduceGT, Int.reduceGE, ↓reduceIte, decide_true, decide_false, eq_self, Nat.mul_one, Nat.zero_mul, Nat.one_mul, Int.le_refl, Nat.le_refl, Int.cast_ofNat_Int, hno]
  · have hBn : B = [] := List.length_eq_zero_iff.1 (by omega)
    subst hBn
    have h1 : inB o.f 0 (-1) = false := by unfold inB; simp; omega
    have hno : obOk 0 T.length o = false := by unfold obOk; simp [h1]
    rcases hB with ⟨rfl, _⟩ | ⟨fB, rfl⟩
    all_goals
      simp (decide := true) (maxSteps := 4000000) only [go_sem, Nat.reduceAdd, Nat.reduceSub, Nat.reduceMul, Nat.reduceDiv, Nat.reduceMod, Nat.reduceLT, Nat.reduceLeDiff, Nat.reduceEqDiff, Nat.reduceBEq, Nat.reduceBNe, Nat.reduceGT, Int.reduceAdd, Int.reduceSub, Int.reduceMul, Int.reduceNeg, Int.reduceLT, Int.reduceLE, Int.reduceEq, Int.reduceNe, Int.reduceBEq, Int.reduceBNe, Int.reduceToNat, Int.reduceGT, Int.reduceGE, ↓reduceIte, decide_true, decide_false, eq_self, Nat.mul_one, Nat.zero_mul, Nat.one_mul, Int.le_refl, Nat.le_refl, Int.cast_ofNat_Int, Try.f88, Ob.t, Ob.cs, w0, h1, List.length_nil]
      refine pwpC_loopU (A := Unit) [2, 3] (fun _ => [(6, .t (.int .i64 0)), (5, .t (.bool false))]) (fun _ => []) (fun _ => 0) () (by decide) (fun _ => by rfl) ?_ fun Q1 hQ1 _ I1 hI1 => ?_
      · simp (decide := true) (maxSteps := 4000000) only [go_sem, Nat.reduceAdd, Nat.reduceSub, Nat.reduceMul, Nat.reduceDiv, Nat.reduceMod, Nat.reduceLT, Nat.reduceLeDiff, Nat.reduceEqDiff, Nat.reduceBEq, Nat.reduceBNe, Nat.reduceGT, Int.reduceAdd, Int.reduceSub, Int.reduceMul, Int.reduceNeg, Int.reduceLT, Int.reduceLE, Int.reduceEq, Int.reduceNe, Int.reduceBEq, Int.reduceBNe, Int.reduceToNat, Int.reduceGT, Int.reduceGE, ↓reduceIte, decide_true, decide_false, eq_self, Nat.mul_one, Nat.zero_mul, Nat.one_mul, Int.le_refl, Nat.le_refl, Int.cast_ofNat_Int]
      · simp (decide := true) (maxSteps := 4000000) only [go_sem, Nat.reduceAdd, Nat.reduceSub, Nat.reduceMul, Nat.reduceDiv, Nat.reduceMod, Nat.reduceLT, Nat.reduceLeDiff, Nat.reduceEqDiff, Nat.reduceBEq, Nat.reduceBNe, Nat.reduceGT, Int.reduceAdd, Int.reduceSub, Int.reduceMul, Int.reduceNeg, Int.reduceLT, Int.reduceLE, Int.reduceEq, Int.reduceNe, Int.reduceBEq, Int.reduceBNe, Int.reduceToNat, Int.reduceGT, Int.reduceGE, ↓reduceIte, decide_true, decide_false, eq_self, Nat.mul_one, Nat.zero_mul, Nat.one_mul, Int.le_refl, Nat.le_refl, Int.cast_ofNat_Int]
        refine hQ1 _ _ ?_
        simp (decide := true) (maxSteps := 4000000) only [go_sem, Nat.reduceAdd, Nat.reduceSub, Nat.reduceMul, Nat.reduceDiv, Nat.reduceMod, Nat.reduceLT, Nat.reduceLeDiff, Nat.reduceEqDiff, Nat.reduceBEq, Nat.reduceBNe, Nat.reduceGT, Int.reduceAdd, Int.reduceSub, Int.reduceMul, Int.reduceNeg, Int.reduceLT, Int.reduceLE, Int.reduceEq, Int.reduceNe, Int.reduceBEq, Int.reduceBNe, Int.reduceToNat, Int.reduceGT, Int.reduceGE, ↓reduceIte, decide_true, decide_false, eq_self, Nat.mul_one, Nat.zero_mul, Nat.one_mul, Int.le_refl, Nat.le_refl, Int.cast_ofNat_Int, hno]
noncomputable def rMade : List TV → Option TV := glIsOb
theorem rMade_ok : ∀ xs r, glIsOb xs = some r → PCalls Try.prog 88 xs r := by
  intro xs r h
  unfold glIsOb at h
  split at h
  · split at h
    · rename_i B T hB hT
      split at h
      · rename_i hc; cases h
        exact r4Made_c (rowL_some (un := unBlanks) rfl (@unBlanks_some) hB) (rowL_some (un := unSpans) rfl (@unSpans_some) hT) hc.1 hc.2 ⟨_, _, _, _, _⟩
      · cases h
    · cases h
  · cases h
noncomputable def spR2 : Pm.Spec := spR1.one 88 glIsOb
@[go_sem] theorem spR2_p (f : FuncId) (xs : List TV) : spR2.p f xs = Pm.Spec.p (spR1.one 88 glIsOb) f xs := rfl
@[go_sem] theorem spR2_h (f : FuncId) (ps : List PV) (hl : List PO) : spR2.h f ps hl = Pm.Spec.h (spR1.one 88 glIsOb) f ps hl := rfl
@[go_sem] theorem spR2_fz (f : FuncId) : spR2.fz f = Pm.Spec.fz (spR1.one 88 glIsOb) f := rfl
@[go_sem] theorem spR2_fr (f : FuncId) : spR2.fr f = Pm.Spec.fr (spR1.one 88 glIsOb) f := rfl
@[go_sem] theorem spR2_mu (t : TypeId) : spR2.mu t = Pm.Spec.mu (spR1.one 88 glIsOb) t := rfl
theorem spR2_ok : SpecOk Try.prog spR2 := Spec.one_ok rMade_ok spR1_ok
theorem r4Asked_c {B : List Blank} {T : List Span} {sB sT : TV} (hB : IsRow Blank.cs sB B) (hT : IsRow Span.cs sT T) (hlB : B.length ≤ 5864062014806) (hlT : T.length ≤ 9000000000000) (w : Want) (o : Ob) : PCalls Try.prog 58 [.agg [sB, sT], w.t, o.t] (.int .i64 (askedG B T w o)) := by
  have u1 : unBlanks [] = some [] := rfl
  have u2 : unSpans [] = some [] := rfl
  refine pcalls_by Try.mixes spR2_ok (fn := Try.f58) Try.func58 rfl (by kernel_rfl) (by show 3 ≤ _; decide) ?_
  unfold askedG
  cases hs : stockOk B T with
  | false => rcases hB with ⟨rfl, rfl⟩ | ⟨fB, rfl⟩ <;> rcases hT with ⟨rfl, rfl⟩ | ⟨fT, rfl⟩ <;> simp (decide := true) (maxSteps := 4000000) only [go_sem, Nat.reduceAdd, Nat.reduceSub, Nat.reduceMul, Nat.reduceDiv, Nat.reduceMod, Nat.reduceLT, Nat.reduceLeDiff, Nat.reduceEqDiff, Nat.reduceBEq, Nat.reduceBNe, Nat.reduceGT, Int.reduceAdd, Int.reduceSub, Int.reduceMul, Int.reduceNeg, Int.reduceLT, Int.reduceLE, Int.reduceEq, Int.reduceNe, Int.reduceBEq, Int.reduceBNe, Int.reduceToNat, Int.reduceGT, Int.reduceGE, ↓reduceIte, decide_true, decide_false, eq_self, Nat.mul_one, Nat.zero_mul, Nat.one_mul, Int.le_refl, Nat.le_refl, Int.cast_ofNat_Int, Try.f58, Ob.t, Ob.cs, Want.t, u1, u2, hlB, hlT, hs, List.length_nil]
  | true =>
    have hs' := stockOk_iff.1 hs
    obtain ⟨fB, rfl⟩ := hB.ne (by omega)
    obtain ⟨fT, rfl⟩ := hT.ne (by omega)
    cases hw : wantOk w <;> cases ho : obOk B.length T.length o <;> simp (decide := true) (maxSteps := 4000000) only [go_sem, Nat.reduceAdd, Nat.reduceSub, Nat.reduceMul, Nat.reduceDiv, Nat.reduceMod, Nat.reduceLT, Nat.reduceLeDiff, Nat.reduceEqDiff, Nat.reduceBEq, Nat.reduceBNe, Nat.reduceGT, Int.reduceAdd, Int.reduceSub, Int.reduceMul, Int.reduceNeg, Int.reduceLT, Int.reduceLE, Int.reduceEq, Int.reduceNe, Int.reduceBEq, Int.reduceBNe, Int.reduceToNat, Int.reduceGT, Int.reduceGE, ↓reduceIte, decide_true, decide_false, eq_self, Nat.mul_one, Nat.zero_mul, Nat.one_mul, Int.le_refl, Nat.le_refl, Int.cast_ofNat_Int, Try.f58, Ob.t, Ob.cs, Want.t, hlB, hlT, hs, hw, ho]
noncomputable def rAsked : List TV → Option TV
  | [.agg [sB, sT], .agg [.int .i64 x, .int .i64 y, .int .i64 z], .agg [.int .i64 f, .int .i64 s, .int .i64 a, .int .i64 b, .int .i64 c]] => match rowL unBlanks sB, rowL unSpans sT with
    | some B, some T => if B.length ≤ 5864062014806 ∧ T.length ≤ 9000000000000 then some (.int .i64 (askedG B T ⟨⟨x, y⟩, z⟩ ⟨f, s, a, b, c⟩)) else none
    | _, _ => none
  | _ => none
theorem rAsked_ok : ∀ xs r, rAsked xs = some r → PCalls Try.prog 58 xs r := by
  intro xs r h
  unfold rAsked at h
  split at h
  · split at h
    · rename_i B T hB hT
      split at h
      · rename_i hc; cases h
        exact r4Asked_c (rowL_some (un := unBlanks) rfl (@unBlanks_some) hB) (rowL_some (un := unSpans) rfl (@unSpans_some) hT) hc.1 hc.2 ⟨⟨_, _⟩, _⟩ ⟨_, _, _, _, _⟩
      · cases h
    · cases h
  · cases h
attribute [go_sem] rAsked
theorem r4Bends_c {l : List Int} (full : Bool) (o : Ob) (ha : 0 ≤ o.a ∧ o.a < l.length) (hb : 0 ≤ o.b ∧ o.b < l.length) (hc : 0 ≤ o.c ∧ o.c < l.length) : PCalls Try.prog 89 [o.t, .sl (ints l) l.length full] (.tup [.int .i64 (IntKind.i64.wrap (nth l o.a - nth l o.b)), .int .i64 (IntKind.i64.wrap (nth l o.b - nth l o.c))]) := by
  obtain ⟨of, os, oa, ob, oc⟩ := o
  simp only at ha hb hc
  obtain ⟨a, rfl⟩ := Int.eq_ofNat_of_zero_le ha.1
  obtain ⟨b, rfl⟩ := Int.eq_ofNat_of_zero_le hb.1
  obtain ⟨c, rfl⟩ := Int.eq_ofNat_of_zero_le hc.1
  obtain ⟨x, hx⟩ := get_lt ha.2
  obtain ⟨y, hy⟩ := get_lt hb.2
  obtain ⟨z, hz⟩ := get_lt hc.2
  have d1 := ints_at hx
  have d2 := ints_at hy
  have d3 := ints_at hz
  rw [Nat.mul_one] at d1 d2 d3
  refine pcalls_by Try.mixes noSpec_ok (fn := Try.f89) Try.func89 rfl (by kernel_rfl) (by show 2 ≤ _; decide) ?_
  simp (decide := true) (maxSteps := 4000000) only [go_sem, Nat.reduceAdd, Nat.reduceSub, Nat.reduceMul, Nat.reduceDiv, Nat.reduceMod, Nat.reduceLT, Nat.reduceLeDiff, Nat.reduceEqDiff, Nat.reduceBEq, Nat.reduceBNe, Nat.reduceGT, Int.reduceAdd, Int.reduceSub, Int.reduceMul, Int.reduceNeg, Int.reduceLT, Int.reduceLE, Int.reduceEq, Int.reduceNe, Int.reduceBEq, Int.reduceBNe, Int.reduceToNat, Int.reduceGT, Int.reduceGE, ↓reduceIte, decide_true, decide_false, eq_self, Nat.mul_one, Nat.zero_mul, Nat.one_mul, Int.le_refl, Nat.le_refl, Int.cast_ofNat_Int, Try.f89, Ob.t, Ob.cs, ha.2, hb.2, hc.2, d1, d2, d3, Int.toNat_natCast, nth_eq hx, nth_eq hy, nth_eq hz]
noncomputable def rBends : List TV → Option TV
  | [.agg [.int .i64 f, .int .i64 s, .int .i64 a, .int .i64 b, .int .i64 c], .sl cs n full] => match unI cs with
    | some l => if n = l.length ∧ (0 ≤ a ∧ a < l.length) ∧ (0 ≤ b ∧ b < l.length) ∧ 0 ≤ c ∧ c < l.length then some (.tup [.int .i64 (IntKind.i64.wrap (nth l a - nth l b)), .int .i64 (IntKind.i64.wrap (nth l b - nth l c))]) else none
    | none => none
  | _ => none
theorem rBends_ok : ∀ xs r, rBends xs = some r → PCalls Try.prog 89 xs r := by
  intro xs r h
  unfold rBends at h
  split at h
  · split at h
    · rename_i l hl
      split at h
      · rename_i hc; cases h
        have e1 := unI_some hl
        rw [ic_ints] at e1
        obtain ⟨rfl, h1, h2, h3⟩ := hc
        rw [e1]
        exact r4Bends_c _ ⟨_, _, _, _, _⟩ h1 h2 h3
      · cases h
    · cases h
  · cases h
attribute [go_sem] rBends
noncomputable def spR3 : Pm.Spec := (spR2.one 58 rAsked).one 89 rBends
@[go_sem] theorem spR3_p (f : FuncId) (xs : List TV) : spR3.p f xs = Pm.Spec.p ((spR2.one 58 rAsked).one 89 rBends) f xs := rfl
@[go_sem] theorem spR3_h (f : FuncId) (ps : List PV) (hl : List PO) : spR3.h f ps hl = Pm.Spec.h ((spR2.one 58 rAsked).one 89 rBends) f ps hl := rfl
@[go_sem] theorem spR3_fz (f : FuncId) : spR3.fz f = Pm.Spec.fz ((spR2.one 58 rAsked).one 89 rBends) f := rfl
@[go_sem] theorem spR3_fr (f : FuncId) : spR3.fr f = Pm.Spec.fr ((spR2.one 58 rAsked).one 89 rBends) f := rfl
@[go_sem] theorem spR3_mu (t : TypeId) : spR3.mu t = Pm.Spec.mu ((spR2.one 58 rAsked).one 89 rBends) t := rfl
theorem spR3_ok : SpecOk Try.prog spR3 := Spec.one_ok rBends_ok (Spec.one_ok rAsked_ok spR2_ok)
/-- What the specification reckons. -/
theorem r4SeenV_c {ix co cu : List Int} (f1 f2 f3 : Bool) (o : Ob) (h1 : 0 ≤ o.f ∧ o.f < ix.length) (h2 : 0 ≤ o.s ∧ o.s < ix.length) (hl : co.length = ix.length) (ha : 0 ≤ o.a ∧ o.a < cu.length) (hb : 0 ≤ o.b ∧ o.b < cu.length) (hc : 0 ≤ o.c ∧ o.c < cu.length) :
    PCalls Try.prog 59 [o.t, .agg [.sl (ints ix) ix.length f1, .sl (ints co) co.length f2, .sl (ints cu) cu.length f3]] (.tup [.int .i64 (pwW (nth ix o.f) (nth ix o.s) (nth cu o.a) (nth cu o.b) (nth cu o.c)), .int .i64 (pwW (nth co o.f) (nth co o.s) (nth cu o.a) (nth cu o.b) (nth cu o.c))]) := by
  obtain ⟨of, os, oa, ob, oc⟩ := o
  simp only at h1 h2 ha hb hc ⊢
  obtain ⟨i, rfl⟩ := Int.eq_ofNat_of_zero_le h1.1
  obtain ⟨j, rfl⟩ := Int.eq_ofNat_of_zero_le h2.1
  have h3 : (i : Int) < co.length := by omega
  have h4 : (j : Int) < co.length := by omega
  obtain ⟨x, hx⟩ := get_lt h1.2
  obtain ⟨y, hy⟩ := get_lt h2.2
  obtain ⟨z, hz⟩ := get_lt h3
  obtain ⟨u, hu⟩ := get_lt h4
  have d1 := ints_at hx
  have d2 := ints_at hy
  have d3 := ints_at hz
  have d4 := ints_at hu
  rw [Nat.mul_one] at d1 d2 d3 d4
  refine pcalls_by Try.mixes spR3_ok (fn := Try.f59) Try.func59 rfl (by kernel_rfl) (by show 2 ≤ _; decide) ?_
  simp (decide := true) (maxSteps := 4000000) only [go_sem, Nat.reduceAdd, Nat.reduceSub, Nat.reduceMul, Nat.reduceDiv, Nat.reduceMod, Nat.reduceLT, Nat.reduceLeDiff, Nat.reduceEqDiff, Nat.reduceBEq, Nat.reduceBNe, Nat.reduceGT, Int.reduceAdd, Int.reduceSub, Int.reduceMul, Int.reduceNeg, Int.reduceLT, Int.reduceLE, Int.reduceEq, Int.reduceNe, Int.reduceBEq, Int.reduceBNe, Int.reduceToNat, Int.reduceGT, Int.reduceGE, ↓reduceIte, decide_true, decide_false, eq_self, Nat.mul_one, Nat.zero_mul, Nat.one_mul, Int.le_refl, Nat.le_refl, Int.cast_ofNat_Int, Try.f59, Ob.t, Ob.cs, unI_eq, h1.2, h2.2, h3, h4, d1, d2, d3, d4, ha, hb, hc, Int.toNat_natCast, nth_eq hx, nth_eq hy, nth_eq hz, nth_eq hu, pwW]
noncomputable def rSeenV : List TV → Option TV
  | [.agg [.int .i64 f, .int .i64 s, .int .i64 a, .int .i64 b, .int .i64 c], .agg [.sl c1 n1 f1, .sl c2 n2 f2, .sl c3 n3 f3]] => match unI c1, unI c2, unI c3 with
    | some ix, some co, some cu => if (n1 = ix.length ∧ n2 = co.length ∧ n3 = cu.length) ∧ (0 ≤ f ∧ f < ix.length) ∧ (0 ≤ s ∧ s < ix.length) ∧ co.length = ix.length ∧ (0 ≤ a ∧ a < cu.length) ∧ (0 ≤ b ∧ b < cu.length) ∧ 0 ≤ c ∧ c < cu.length then
        some (.tup [.int .i64 (pwW (nth ix f) (nth ix s) (nth cu a) (nth cu b) (nth cu c)), .int .i64 (pwW (nth co f) (nth co s) (nth cu a) (nth cu b) (nth cu c))]) else none
    | _, _, _ => none
  | _ => none
theorem rSeenV_ok : ∀ xs r, rSeenV xs = some r → PCalls Try.prog 59 xs r := by
  intro xs r h
  unfold rSeenV at h
  split at h
  · split at h
    · rename_i ix co cu e1 e2 e3
      split at h
      · rename_i hc; cases h
        have e1 := unI_some e1
        have e2 := unI_some e2
        have e3 := unI_some e3
        rw [ic_ints] at e1 e2 e3
        obtain ⟨⟨rfl, rfl, rfl⟩, h1, h2, hl, h3, h4, h5⟩ := hc
        rw [e1, e2, e3]
        exact r4SeenV_c _ _ _ ⟨_, _, _, _, _⟩ h1 h2 hl h3 h4 h5
      · cases h
    · cases h
  · cases h
attribute [go_sem] rSeenV
noncomputable def spR4 : Pm.Spec := spR3.one 59 rSeenV
@[go_sem] theorem spR4_p (f : FuncId) (xs : List TV) : spR4.p f xs = Pm.Spec.p (spR3.one 59 rSeenV) f xs := rfl
@[go_sem] theorem spR4_h (f : FuncId) (ps : List PV) (hl : List PO) : spR4.h f ps hl = Pm.Spec.h (spR3.one 59 rSeenV) f ps hl := rfl
@[go_sem] theorem spR4_fz (f : FuncId) : spR4.fz f = Pm.Spec.fz (spR3.one 59 rSeenV) f := rfl
@[go_sem] theorem spR4_fr (f : FuncId) : spR4.fr f = Pm.Spec.fr (spR3.one 59 rSeenV) f := rfl
@[go_sem] theorem spR4_mu (t : TypeId) : spR4.mu t = Pm.Spec.mu (spR3.one 59 rSeenV) t := rfl
theorem spR4_ok : SpecOk Try.prog spR4 := Spec.one_ok rSeenV_ok spR3_ok
end Go.Proofs.Ytcjcnmpecmbdeaa

/- Part Gs. -/
namespace Go.Oc
open Go Go.Pm
theorem set_of (p : Nat → Bool) : ∀ n : Nat, ∃ s, s < 2 ^ n ∧ ∀ i, i < n → s.testBit i = p i
  | 0 => ⟨0, by simp, fun i h => by omega⟩
  | n + 1 => by
    obtain ⟨s, h1, h2⟩ := set_of p n
    have hlt : s < 2 ^ (n + 1) := Nat.lt_of_lt_of_le h1 (Nat.pow_le_pow_right (by omega) (by omega))
    cases hp : p n with
    | false =>
      refine ⟨s, hlt, fun i hi => ?_⟩
      by_cases hin : i = n
      · subst hin; rw [hp]; exact Nat.testBit_lt_two_pow h1
      · exact h2 i (by omega)
    | true =>
      refine ⟨s ||| 2 ^ n, Nat.or_lt_two_pow hlt (Nat.pow_lt_pow_right (by omega) (by omega)), fun i hi => ?_⟩
      rw [Nat.testBit_or, Nat.testBit_two_pow]
      by_cases hin : i = n
      · subst hin; simp [hp]
      · rw [h2 i (by omega)]
        have : decide (n = i) = false := by simp; omega
        rw [this, Bool.or_false]
theorem nth_map {n : Nat} {f : Nat → Int} {i : Int} (h0 : 0 ≤ i) (h1 : i < n) : nth ((List.range n).map f) i = f i.toNat := by
  unfold nth
  rw [List.getD_eq_getElem?_getD, List.getElem?_map, List.getElem?_range (by omega)]; rfl
theorem hiOf_f {o : Ob} {bits : Nat} (h : 0 ≤ o.f) (hne : o.f ≠ o.s) : hiOf o bits o.f.toNat = bits.testBit 0 := by
  unfold hiOf
  rw [Int.toNat_of_nonneg h]
  have : (o.f == o.s) = false := by simpa using hne
  simp [this]
theorem hiOf_s {o : Ob} {bits : Nat} (h : 0 ≤ o.s) (hne : o.f ≠ o.s) : hiOf o bits o.s.toNat = bits.testBit 1 := by
  unfold hiOf
  rw [Int.toNat_of_nonneg h]
  have : (o.s == o.f) = false := by simpa using fun e : o.s = o.f => hne e.symm
  simp [this]
/-- In the corner that bits choose: power and colour. -/
def bitsG (bits : Nat) (t : Int) : Bool := bits.testBit (2 + t.toNat)
theorem corner_seen {B : List Blank} {T : List Span} {o : Ob} (ho : obOk B.length T.length o = true) (bits : Nat) :
    (nth (cIx B o bits B.length) o.f = endS (blankAt B o.f).i (bits.testBit 0) ∧ nth (cIx B o bits B.length) o.s = endS (blankAt B o.s).i (bits.testBit 1)) ∧
    (nth (cCo B o bits B.length) o.f = endS (blankAt B o.f).c (bits.testBit 0) ∧ nth (cCo B o bits B.length) o.s = endS (blankAt B o.s).c (bits.testBit 1)) ∧
    ∀ t : Int, 0 ≤ t → t < T.length → nth (cCu T bits T.length) t = endS (toolAt T t) (bitsG bits t) := by
  obtain ⟨a, b, c, d, e, f⟩ := obOk_iff.1 ho
  have e1 : ((o.f.toNat : Nat) : Int) = o.f := Int.toNat_of_nonneg a.1
  have e2 : ((o.s.toNat : Nat) : Int) = o.s := Int.toNat_of_nonneg b.1
  unfold cIx cCo cCu
  refine ⟨⟨?_, ?_⟩, ⟨?_, ?_⟩, fun t h0 h1 => ?_⟩
  · rw [nth_map a.1 (by omega), hiOf_f a.1 c, e1]
  · rw [nth_map b.1 (by omega), hiOf_s b.1 c, e2]
  · rw [nth_map a.1 (by omega), hiOf_f a.1 c, e1]
  · rw [nth_map b.1 (by omega), hiOf_s b.1 c, e2]
  · rw [nth_map h0 h1, Int.toNat_of_nonneg h0]; rfl
/-- All corners of the specification. -/
def refV (s1 s2 : Span) (T : List Span) (o : Ob) (bits : Nat) : Int := endV s1 s2 T o (bits.testBit 0) (bits.testBit 1) (bitsG bits)
def refL (s1 s2 : Span) (T : List Span) (o : Ob) (k : Nat) : List Int := (List.range k).map (refV s1 s2 T o)
theorem refL_succ (s1 s2 : Span) (T : List Span) (o : Ob) (k : Nat) : refL s1 s2 T o (k + 1) = refL s1 s2 T o k ++ [refV s1 s2 T o k] := by unfold refL; rw [List.range_succ, List.map_append]; rfl
theorem refL_all {B : List Blank} {T : List Span} {o : Ob} (ho : obOk B.length T.length o = true) (s1 s2 : Span) : minmax (refL s1 s2 T o (2 ^ (T.length + 2))) = minmax (corners s1 s2 (toolAt T o.a) (toolAt T o.b) (toolAt T o.c) o 32) := by
  obtain ⟨_, _, _, d, e, f⟩ := obOk_iff.1 ho
  have hpos : 0 < 2 ^ (T.length + 2) := Nat.pow_pos (by omega)
  refine minmax_ext ?_ (corners_ne _ _ _ _ _ _) fun v => ?_
  · intro h
    have := congrArg List.length h
    unfold refL at this
    rw [List.length_map, List.length_range, List.length_nil] at this
    omega
  · rw [corner_iff]
    unfold refL
    rw [List.mem_map]
    constructor
    · rintro ⟨bits, _, rfl⟩
      exact ⟨_, _, _, rfl⟩
    · rintro ⟨hi, hj, g, rfl⟩
      obtain ⟨s, h1, h2⟩ := set_of (fun i => if i = 0 then hi else if i = 1 then hj else g ((i : Int) - 2)) (T.length + 2)
      refine ⟨s, List.mem_range.2 h1, ?_⟩
      have q0 := h2 0 (by omega)
      have q1 := h2 1 (by omega)
      simp only [if_true, Nat.one_ne_zero, if_false] at q0 q1
      have qt : ∀ t : Int, 0 ≤ t → t ≤ (T.length : Int) - 1 → bitsG s t = g t := by
        intro t h3 h4
        unfold bitsG
        rw [h2 (2 + t.toNat) (by omega), if_neg (by omega), if_neg (by omega)]
        congr 1
        omega
      unfold refV endV
      rw [q0, q1, qt _ d.1 d.2, qt _ e.1 e.2, qt _ f.1 f.2]
theorem minmax_wider (l : List Int) (v : Int) (k : Nat) (hl : l.length = k) : widerS (minmax l) v ((k : Int) == 0) = minmax (l ++ [v]) := by
  cases l with
  | nil => simp only [List.length_nil] at hl; subst hl; rfl
  | cons x l =>
    have : ((k : Int) == 0) = false := by rw [← hl]; simp; omega
    rw [this, minmax_snoc _ _ (by simp)]; rfl
theorem refL_len (s1 s2 : Span) (T : List Span) (o : Ob) (k : Nat) : (refL s1 s2 T o k).length = k := by simp [refL]
end Go.Oc
namespace Go.Proofs.Ytcjcnmpecmbdeaa
open Go.RowKit Go.Pm Go.Oc
set_option maxRecDepth 100000
set_option linter.unusedVariables false
set_option maxHeartbeats 4000000

theorem r4Corner_c {B : List Blank} {T : List Span} (fB fT : Bool) (h1 : 1 ≤ B.length ∧ B.length ≤ 8) (h2 : 1 ≤ T.length ∧ T.length ≤ 6) (o : Ob) (bits : Nat) : PCalls Try.prog 93 [.agg [.sl (B.flatMap Blank.cs) B.length fB, .sl (T.flatMap Span.cs) T.length fT], o.t, .int .i64 bits]
    (.agg [.sl (ints (cIx B o bits B.length)) B.length false, .sl (ints (cCo B o bits B.length)) B.length false, .sl (ints (cCu T bits T.length)) T.length false]) := by
  have b0 : 0 ≤ (bits : Int) := by omega
  refine pcalls_by Try.mixes spR4_ok (fn := Try.f93) Try.func93 rfl (by kernel_rfl) (by show 3 ≤ _; decide) ?_
  simp (decide := true) (maxSteps := 4000000) only [go_sem, Nat.reduceAdd, Nat.reduceSub, Nat.reduceMul, Nat.reduceDiv, Nat.reduceMod, Nat.reduceLT, Nat.reduceLeDiff, Nat.reduceEqDiff, Nat.reduceBEq, Nat.reduceBNe, Nat.reduceGT, Int.reduceAdd, Int.reduceSub, Int.reduceMul, Int.reduceNeg, Int.reduceLT, Int.reduceLE, Int.reduceEq, Int.reduceNe, Int.reduceBEq, Int.reduceBNe, Int.reduceToNat, Int.reduceGT, Int.reduceGE, ↓reduceIte, decide_true, decide_false, eq_self, Nat.mul_one, Nat.zero_mul, Nat.one_mul, Int.le_refl, Nat.le_refl, Int.cast_ofNat_Int, Try.f93, Ob.t, Ob.cs]
  refine pwpC_loopU (A := { k : Nat // k ≤ B.length }) [2, 3, 4, 6, 7] (fun k => [(8, .t (.int .i64 k.1))]) (fun k => [(3, .box [.own (ints (cIx B o bits k.1)) k.1 4, .own (ints (cCo B o bits k.1)) k.1 5, .t .nilSl]), (4, .tok k.1 3), (5, .tok k.1 3)]) (fun k => B.length - k.1) ⟨0, by omega⟩ (by decide) (fun _ => by rfl) ?_ fun Q1 hQ1 ⟨k, hk⟩ I1 hI1 => ?_
  · simp (decide := true) (maxSteps := 4000000) only [go_sem, Nat.reduceAdd, Nat.reduceSub, Nat.reduceMul, Nat.reduceDiv, Nat.reduceMod, Nat.reduceLT, Nat.reduceLeDiff, Nat.reduceEqDiff, Nat.reduceBEq, Nat.reduceBNe, Nat.reduceGT, Int.reduceAdd, Int.reduceSub, Int.reduceMul, Int.reduceNeg, Int.reduceLT, Int.reduceLE, Int.reduceEq, Int.reduceNe, Int.reduceBEq, Int.reduceBNe, Int.reduceToNat, Int.reduceGT, Int.reduceGE, ↓reduceIte, decide_true, decide_false, eq_self, Nat.mul_one, Nat.zero_mul, Nat.one_mul, Int.le_refl, Nat.le_refl, Int.cast_ofNat_Int, cIx, cCo, List.range_zero, List.map_nil, ints]
    first | done | exact ⟨rfl, rfl⟩
  · by_cases hlt : (k : Int) < B.length
    · obtain ⟨x, hx⟩ := get_lt hlt
      have hd := flat_at Blank.cs (n := 5) (fun _ => rfl) hx
      have hc1 : IntKind.i64.wrap (k + 1) = ((k + 1 : Nat) : Int) := by rw [wrap_in (by omega) (by omega)]; omega
      have s1 := cIx_succ B o bits k
      have s2 := cCo_succ B o bits k
      rw [blankAt_eq hx] at s1 s2
      have el1 : (ints (cIx B o bits k)).length = k := by rw [ints_len, cIx_len]
      have el2 : (ints (cCo B o bits k)).length = k := by rw [ints_len, cCo_len]
      have hroom : (k + 1) * 8 ≤ 140737488355328 := by omega
      have hhi : hiOf o bits k = (((k : Int) == o.f && bits.testBit 0) || ((k : Int) == o.s && bits.testBit 1)) := rfl
      cases g1 : ((k : Int) == o.f) <;> cases g2 : ((k : Int) == o.s) <;> cases g3 : bits.testBit 0 <;> cases g4 : bits.testBit 1 <;> rw [g1, g2, g3, g4] at hhi <;> simp only [Bool.and_true, Bool.and_false, Bool.or_true, Bool.or_false, Bool.true_and, Bool.false_and, Bool.and_self, Bool.or_self] at hhi <;> rw [hhi] at s1 s2
      all_goals simp (decide := true) (maxSteps := 4000000) only [go_sem, Nat.reduceAdd, Nat.reduceSub, Nat.reduceMul, Nat.reduceDiv, Nat.reduceMod, Nat.reduceLT, Nat.reduceLeDiff, Nat.reduceEqDiff, Nat.reduceBEq, Nat.reduceBNe, Nat.reduceGT, Int.reduceAdd, Int.reduceSub, Int.reduceMul, Int.reduceNeg, Int.reduceLT, Int.reduceLE, Int.reduceEq, Int.reduceNe, Int.reduceBEq, Int.reduceBNe, Int.reduceToNat, Int.reduceGT, Int.reduceGE, ↓reduceIte, decide_true, decide_false, eq_self, Nat.mul_one, Nat.zero_mul, Nat.one_mul, Int.le_refl, Nat.le_refl, Int.cast_ofNat_Int, hlt, b0, hd, Blank.cs, g1, g2, g3, g4, el1, el2, hroom, Int.toNat_natCast]
      all_goals refine hI1 _ ⟨k + 1, by omega⟩ (by simp only; omega) ?_
      all_goals simp (decide := true) (maxSteps := 4000000) only [go_sem, Nat.reduceAdd, Nat.reduceSub, Nat.reduceMul, Nat.reduceDiv, Nat.reduceMod, Nat.reduceLT, Nat.reduceLeDiff, Nat.reduceEqDiff, Nat.reduceBEq, Nat.reduceBNe, Nat.reduceGT, Int.reduceAdd, Int.reduceSub, Int.reduceMul, Int.reduceNeg, Int.reduceLT, Int.reduceLE, Int.reduceEq, Int.reduceNe, Int.reduceBEq, Int.reduceBNe, Int.reduceToNat, Int.reduceGT, Int.reduceGE, ↓reduceIte, decide_true, decide_false, eq_self, Nat.mul_one, Nat.zero_mul, Nat.one_mul, Int.le_refl, Nat.le_refl, Int.cast_ofNat_Int, hc1, s1, s2, ints_snoc']
    · have hke : k = B.length := by omega
      subst hke
      simp (decide := true) (maxSteps := 4000000) only [go_sem, Nat.reduceAdd, Nat.reduceSub, Nat.reduceMul, Nat.reduceDiv, Nat.reduceMod, Nat.reduceLT, Nat.reduceLeDiff, Nat.reduceEqDiff, Nat.reduceBEq, Nat.reduceBNe, Nat.reduceGT, Int.reduceAdd, Int.reduceSub, Int.reduceMul, Int.reduceNeg, Int.reduceLT, Int.reduceLE, Int.reduceEq, Int.reduceNe, Int.reduceBEq, Int.reduceBNe, Int.reduceToNat, Int.reduceGT, Int.reduceGE, ↓reduceIte, decide_true, decide_false, eq_self, Nat.mul_one, Nat.zero_mul, Nat.one_mul, Int.le_refl, Nat.le_refl, Int.cast_ofNat_Int, hlt]
      refine hQ1 _ _ ?_
      simp (decide := true) (maxSteps := 4000000) only [go_sem, Nat.reduceAdd, Nat.reduceSub, Nat.reduceMul, Nat.reduceDiv, Nat.reduceMod, Nat.reduceLT, Nat.reduceLeDiff, Nat.reduceEqDiff, Nat.reduceBEq, Nat.reduceBNe, Nat.reduceGT, Int.reduceAdd, Int.reduceSub, Int.reduceMul, Int.reduceNeg, Int.reduceLT, Int.reduceLE, Int.reduceEq, Int.reduceNe, Int.reduceBEq, Int.reduceBNe, Int.reduceToNat, Int.reduceGT, Int.reduceGE, ↓reduceIte, decide_true, decide_false, eq_self, Nat.mul_one, Nat.zero_mul, Nat.one_mul, Int.le_refl, Nat.le_refl, Int.cast_ofNat_Int]
      refine pwpC_loopU (A := { k : Nat // k ≤ T.length }) [2, 3, 4, 6, 7] (fun k => [(10, .t (.int .i64 k.1))]) (fun k => [(3, .box [.own (ints (cIx B o bits B.length)) B.length 4, .own (ints (cCo B o bits B.length)) B.length 5, .own (ints (cCu T bits k.1)) k.1 6]), (6, .tok k.1 3)]) (fun k => T.length - k.1) ⟨0, by omega⟩ (by decide) (fun _ => by rfl) ?_ fun Q2 hQ2 ⟨m, hm⟩ I2 hI2 => ?_
      · simp (decide := true) (maxSteps := 4000000) only [go_sem, Nat.reduceAdd, Nat.reduceSub, Nat.reduceMul, Nat.reduceDiv, Nat.reduceMod, Nat.reduceLT, Nat.reduceLeDiff, Nat.reduceEqDiff, Nat.reduceBEq, Nat.reduceBNe, Nat.reduceGT, Int.reduceAdd, Int.reduceSub, Int.reduceMul, Int.reduceNeg, Int.reduceLT, Int.reduceLE, Int.reduceEq, Int.reduceNe, Int.reduceBEq, Int.reduceBNe, Int.reduceToNat, Int.reduceGT, Int.reduceGE, ↓reduceIte, decide_true, decide_false, eq_self, Nat.mul_one, Nat.zero_mul, Nat.one_mul, Int.le_refl, Nat.le_refl, Int.cast_ofNat_Int, cCu, List.range_zero, List.map_nil, ints]
        first | done | rfl
      · by_cases hlt2 : (m : Int) < T.length
        · obtain ⟨y, hy⟩ := get_lt hlt2
          have hd := flat_at Span.cs (n := 2) (fun _ => rfl) hy
          have hc1 : IntKind.i64.wrap (m + 1) = ((m + 1 : Nat) : Int) := by rw [wrap_in (by omega) (by omega)]; omega
          have hc2 : IntKind.i64.wrap (2 + m) = ((2 + m : Nat) : Int) := by rw [wrap_in (by omega) (by omega)]; omega
          have s3 := cCu_succ T bits m
          rw [toolAt_eq hy] at s3
          have el3 : (ints (cCu T bits m)).length = m := by rw [ints_len, cCu_len]
          have hroom : (m + 1) * 8 ≤ 140737488355328 := by omega
          have hb : 0 ≤ (bits : Int) ∧ 0 ≤ ((2 + m : Nat) : Int) ∧ ((2 + m : Nat) : Int) < 64 := by omega
          simp (decide := true) (maxSteps := 4000000) only [go_sem, Nat.reduceAdd, Nat.reduceSub, Nat.reduceMul, Nat.reduceDiv, Nat.reduceMod, Nat.reduceLT, Nat.reduceLeDiff, Nat.reduceEqDiff, Nat.reduceBEq, Nat.reduceBNe, Nat.reduceGT, Int.reduceAdd, Int.reduceSub, Int.reduceMul, Int.reduceNeg, Int.reduceLT, Int.reduceLE, Int.reduceEq, Int.reduceNe, Int.reduceBEq, Int.reduceBNe, Int.reduceToNat, Int.reduceGT, Int.reduceGE, ↓reduceIte, decide_true, decide_false, eq_self, Nat.mul_one, Nat.zero_mul, Nat.one_mul, Int.le_refl, Nat.le_refl, Int.cast_ofNat_Int, hlt2, hc2, hb, hd, Span.cs, el3, hroom, Int.toNat_natCast]
          refine hI2 _ ⟨m + 1, by omega⟩ (by simp only; omega) ?_
          simp (decide := true) (maxSteps := 4000000) only [go_sem, Nat.reduceAdd, Nat.reduceSub, Nat.reduceMul, Nat.reduceDiv, Nat.reduceMod, Nat.reduceLT, Nat.reduceLeDiff, Nat.reduceEqDiff, Nat.reduceBEq, Nat.reduceBNe, Nat.reduceGT, Int.reduceAdd, Int.reduceSub, Int.reduceMul, Int.reduceNeg, Int.reduceLT, Int.reduceLE, Int.reduceEq, Int.reduceNe, Int.reduceBEq, Int.reduceBNe, Int.reduceToNat, Int.reduceGT, Int.reduceGE, ↓reduceIte, decide_true, decide_false, eq_self, Nat.mul_one, Nat.zero_mul, Nat.one_mul, Int.le_refl, Nat.le_refl, Int.cast_ofNat_Int, hc1, s3, ints_snoc']
        · have hme : m = T.length := by omega
          subst hme
          have n1 : ¬ B.length = 0 := by omega
          have n2 : ¬ T.length = 0 := by omega
          simp (decide := true) (maxSteps := 4000000) only [go_sem, Nat.reduceAdd, Nat.reduceSub, Nat.reduceMul, Nat.reduceDiv, Nat.reduceMod, Nat.reduceLT, Nat.reduceLeDiff, Nat.reduceEqDiff, Nat.reduceBEq, Nat.reduceBNe, Nat.reduceGT, Int.reduceAdd, Int.reduceSub, Int.reduceMul, Int.reduceNeg, Int.reduceLT, Int.reduceLE, Int.reduceEq, Int.reduceNe, Int.reduceBEq, Int.reduceBNe, Int.reduceToNat, Int.reduceGT, Int.reduceGE, ↓reduceIte, decide_true, decide_false, eq_self, Nat.mul_one, Nat.zero_mul, Nat.one_mul, Int.le_refl, Nat.le_refl, Int.cast_ofNat_Int, hlt2]
          refine hQ2 _ _ ?_
          simp (decide := true) (maxSteps := 4000000) only [go_sem, Nat.reduceAdd, Nat.reduceSub, Nat.reduceMul, Nat.reduceDiv, Nat.reduceMod, Nat.reduceLT, Nat.reduceLeDiff, Nat.reduceEqDiff, Nat.reduceBEq, Nat.reduceBNe, Nat.reduceGT, Int.reduceAdd, Int.reduceSub, Int.reduceMul, Int.reduceNeg, Int.reduceLT, Int.reduceLE, Int.reduceEq, Int.reduceNe, Int.reduceBEq, Int.reduceBNe, Int.reduceToNat, Int.reduceGT, Int.reduceGE, ↓reduceIte, decide_true, decide_false, eq_self, Nat.mul_one, Nat.zero_mul, Nat.one_mul, Int.le_refl, Nat.le_refl, Int.cast_ofNat_Int, n1, n2]
noncomputable def rCorner : List TV → Option TV
  | [.agg [.sl cB n fB, .sl cT m fT], .agg [.int .i64 f, .int .i64 s, .int .i64 a, .int .i64 b, .int .i64 c], .int .i64 bits] => match unBlanks cB, unSpans cT with
    | some B, some T => if n = B.length ∧ m = T.length ∧ (1 ≤ B.length ∧ B.length ≤ 8) ∧ (1 ≤ T.length ∧ T.length ≤ 6) ∧ 0 ≤ bits then
        some (.agg [.sl (ints (cIx B ⟨f, s, a, b, c⟩ bits.toNat B.length)) B.length false, .sl (ints (cCo B ⟨f, s, a, b, c⟩ bits.toNat B.length)) B.length false, .sl (ints (cCu T bits.toNat T.length)) T.length false]) else none
    | _, _ => none
  | _ => none
theorem rCorner_ok : ∀ xs r, rCorner xs = some r → PCalls Try.prog 93 xs r := by
  intro xs r h
  unfold rCorner at h
  split at h
  · rename_i cB n fB cT m fT f s a b c bits
    split at h
    · rename_i B T hB hT
      split at h
      · rename_i hc; cases h
        obtain ⟨rfl, rfl, h1, h2, h3⟩ := hc
        rw [unBlanks_some hB, unSpans_some hT]
        have := r4Corner_c (B := B) (T := T) fB fT h1 h2 ⟨f, s, a, b, c⟩ bits.toNat
        rw [Int.toNat_of_nonneg h3] at this
        exact this
      · cases h
    · cases h
  · cases h
attribute [go_sem] rCorner
noncomputable def spS1 : Pm.Spec := spR4.one 93 rCorner
@[go_sem] theorem spS1_p (f : FuncId) (xs : List TV) : spS1.p f xs = Pm.Spec.p (spR4.one 93 rCorner) f xs := rfl
@[go_sem] theorem spS1_h (f : FuncId) (ps : List PV) (hl : List PO) : spS1.h f ps hl = Pm.Spec.h (spR4.one 93 rCorner) f ps hl := rfl
@[go_sem] theorem spS1_fz (f : FuncId) : spS1.fz f = Pm.Spec.fz (spR4.one 93 rCorner) f := rfl
@[go_sem] theorem spS1_fr (f : FuncId) : spS1.fr f = Pm.Spec.fr (spR4.one 93 rCorner) f := rfl
@[go_sem] theorem spS1_mu (t : TypeId) : spS1.mu t = Pm.Spec.mu (spR4.one 93 rCorner) t := rfl
theorem spS1_ok : SpecOk Try.prog spS1 := Spec.one_ok rCorner_ok spR4_ok
end Go.Proofs.Ytcjcnmpecmbdeaa

/- Part Gt. -/
namespace Go.Proofs.Ytcjcnmpecmbdeaa
open Go.RowKit Go.Pm Go.Oc
set_option maxRecDepth 100000
set_option linter.unusedVariables false
set_option maxHeartbeats 4000000

theorem r4Spans_c {B : List Blank} {T : List Span} (fB fT : Bool) (hs : stockOk B T = true) (o : Ob) (ho : obOk B.length T.length o = true) : PCalls Try.prog 63 [.agg [.sl (B.flatMap Blank.cs) B.length fB, .sl (T.flatMap Span.cs) T.length fT], o.t] (.tup [(spansP B T o).p.t, (spansP B T o).c.t]) := by
  have hs' := stockOk_iff.1 hs
  have ho' := obOk_iff.1 ho
  obtain ⟨N, hN⟩ : ∃ N, 2 ^ (T.length + 2) = N := ⟨_, rfl⟩
  have hp : spansP B T o = ⟨minmax (refL (blankAt B o.f).i (blankAt B o.s).i T o N), minmax (refL (blankAt B o.f).c (blankAt B o.s).c T o N)⟩ := by
    rw [← hN, refL_all ho, refL_all ho]; rfl
  have hNb : 8 ≤ N ∧ N ≤ 256 := by
    rcases (show T.length = 1 ∨ T.length = 2 ∨ T.length = 3 ∨ T.length = 4 ∨ T.length = 5 ∨ T.length = 6 by omega) with e | e | e | e | e | e <;> rw [e] at hN <;> subst hN <;> decide
  have hlz : ¬ (T.length : Int) < 0 := by omega
  have hsh : IntKind.i64.wrap (4 * 2 ^ min T.length 64) = (N : Int) := by
    rcases (show T.length = 1 ∨ T.length = 2 ∨ T.length = 3 ∨ T.length = 4 ∨ T.length = 5 ∨ T.length = 6 by omega) with e | e | e | e | e | e <;> rw [e] at hN ⊢ <;> subst hN <;> rfl
  rw [hp]
  refine pcalls_by Try.mixes spS1_ok (fn := Try.f63) Try.func63 rfl (by kernel_rfl) (by show 2 ≤ _; decide) ?_
  simp (decide := true) (maxSteps := 4000000) only [go_sem, Nat.reduceAdd, Nat.reduceSub, Nat.reduceMul, Nat.reduceDiv, Nat.reduceMod, Nat.reduceLT, Nat.reduceLeDiff, Nat.reduceEqDiff, Nat.reduceBEq, Nat.reduceBNe, Nat.reduceGT, Int.reduceAdd, Int.reduceSub, Int.reduceMul, Int.reduceNeg, Int.reduceLT, Int.reduceLE, Int.reduceEq, Int.reduceNe, Int.reduceBEq, Int.reduceBNe, Int.reduceToNat, Int.reduceGT, Int.reduceGE, ↓reduceIte, decide_true, decide_false, eq_self, Nat.mul_one, Nat.zero_mul, Nat.one_mul, Int.le_refl, Nat.le_refl, Int.cast_ofNat_Int, Try.f63, Ob.t, Ob.cs]
  refine pwpC_loopU (A := { k : Nat // k ≤ N }) [2, 3, 4, 5, 6, 7] (fun k => [(8, .t (.int .i64 k.1))]) (fun k => [(4, .box ((minmax (refL (blankAt B o.f).i (blankAt B o.s).i T o k.1)).cs.map .t)), (5, .box ((minmax (refL (blankAt B o.f).c (blankAt B o.s).c T o k.1)).cs.map .t))]) (fun k => N - k.1) ⟨0, by omega⟩ (by decide) (fun _ => by rfl) ?_ fun Q1 hQ1 ⟨k, hk⟩ I1 hI1 => ?_
  · simp (decide := true) (maxSteps := 4000000) only [go_sem, Nat.reduceAdd, Nat.reduceSub, Nat.reduceMul, Nat.reduceDiv, Nat.reduceMod, Nat.reduceLT, Nat.reduceLeDiff, Nat.reduceEqDiff, Nat.reduceBEq, Nat.reduceBNe, Nat.reduceGT, Int.reduceAdd, Int.reduceSub, Int.reduceMul, Int.reduceNeg, Int.reduceLT, Int.reduceLE, Int.reduceEq, Int.reduceNe, Int.reduceBEq, Int.reduceBNe, Int.reduceToNat, Int.reduceGT, Int.reduceGE, ↓reduceIte, decide_true, decide_false, eq_self, Nat.mul_one, Nat.zero_mul, Nat.one_mul, Int.le_refl, Nat.le_refl, Int.cast_ofNat_Int, refL, List.range_zero, List.map_nil, minmax, Span.cs]
    first | done | exact ⟨rfl, rfl⟩
  · by_cases hlt : (k : Int) < N
    · have hc1 : IntKind.i64.wrap (k + 1) = ((k + 1 : Nat) : Int) := by rw [wrap_in (by omega) (by omega)]; omega
      obtain ⟨⟨c1, c2⟩, ⟨c3, c4⟩, c5⟩ := corner_seen ho k
      have w1 := minmax_wider (refL (blankAt B o.f).i (blankAt B o.s).i T o k) (refV (blankAt B o.f).i (blankAt B o.s).i T o k) k (refL_len ..)
      have w2 := minmax_wider (refL (blankAt B o.f).c (blankAt B o.s).c T o k) (refV (blankAt B o.f).c (blankAt B o.s).c T o k) k (refL_len ..)
      rw [← refL_succ] at w1 w2
      have b1 := blank_ok hs ho'.1.1 (by omega)
      have b2 := blank_ok hs ho'.2.1.1 (by omega)
      have t1 := tool_ok hs ho'.2.2.2.1.1 (by omega)
      have t2 := tool_ok hs ho'.2.2.2.2.1.1 (by omega)
      have t3 := tool_ok hs ho'.2.2.2.2.2.1 (by omega)
      have m1 := endS_mem b1.1.2.1 (k.testBit 0)
      have m2 := endS_mem b2.1.2.1 (k.testBit 1)
      have m3 := endS_mem b1.2.1.2.1 (k.testBit 0)
      have m4 := endS_mem b2.2.1.2.1 (k.testBit 1)
      have m5 := endS_mem t1.2.1 (bitsG k o.a)
      have m6 := endS_mem t2.2.1 (bitsG k o.b)
      have m7 := endS_mem t3.2.1 (bitsG k o.c)
      have p1 : pwW (nth (cIx B o k B.length) o.f) (nth (cIx B o k B.length) o.s) (nth (cCu T k T.length) o.a) (nth (cCu T k T.length) o.b) (nth (cCu T k T.length) o.c) = refV (blankAt B o.f).i (blankAt B o.s).i T o k := by
        rw [c1, c2, c5 _ ho'.2.2.2.1.1 (by omega), c5 _ ho'.2.2.2.2.1.1 (by omega), c5 _ ho'.2.2.2.2.2.1 (by omega)]
        exact (pw_wrap (by omega) (by omega) (by omega) (by omega) (by omega)).1
      have p2 : pwW (nth (cCo B o k B.length) o.f) (nth (cCo B o k B.length) o.s) (nth (cCu T k T.length) o.a) (nth (cCu T k T.length) o.b) (nth (cCu T k T.length) o.c) = refV (blankAt B o.f).c (blankAt B o.s).c T o k := by
        rw [c3, c4, c5 _ ho'.2.2.2.1.1 (by omega), c5 _ ho'.2.2.2.2.1.1 (by omega), c5 _ ho'.2.2.2.2.2.1 (by omega)]
        exact (pw_wrap (by omega) (by omega) (by omega) (by omega) (by omega)).1
      have q1 : (1 ≤ B.length ∧ B.length ≤ 8) ∧ (1 ≤ T.length ∧ T.length ≤ 6) ∧ 0 ≤ (k : Int) := by omega
      have q2 : (0 ≤ o.f ∧ o.f < B.length) ∧ (0 ≤ o.s ∧ o.s < B.length) ∧ (0 ≤ o.a ∧ o.a < T.length) ∧ (0 ≤ o.b ∧ o.b < T.length) ∧ 0 ≤ o.c ∧ o.c < T.length := by omega
      obtain ⟨⟨A0, A1⟩, hA⟩ : ∃ A, minmax (refL (blankAt B o.f).i (blankAt B o.s).i T o k) = A := ⟨_, rfl⟩
      obtain ⟨⟨C0, C1⟩, hC⟩ : ∃ A, minmax (refL (blankAt B o.f).c (blankAt B o.s).c T o k) = A := ⟨_, rfl⟩
      obtain ⟨⟨A2, A3⟩, hA2⟩ : ∃ A, minmax (refL (blankAt B o.f).i (blankAt B o.s).i T o (k + 1)) = A := ⟨_, rfl⟩
      obtain ⟨⟨C2, C3⟩, hC2⟩ : ∃ A, minmax (refL (blankAt B o.f).c (blankAt B o.s).c T o (k + 1)) = A := ⟨_, rfl⟩
      rw [hA, hA2] at w1
      rw [hC, hC2] at w2
      simp (decide := true) (maxSteps := 4000000) only [go_sem, Nat.reduceAdd, Nat.reduceSub, Nat.reduceMul, Nat.reduceDiv, Nat.reduceMod, Nat.reduceLT, Nat.reduceLeDiff, Nat.reduceEqDiff, Nat.reduceBEq, Nat.reduceBNe, Nat.reduceGT, Int.reduceAdd, Int.reduceSub, Int.reduceMul, Int.reduceNeg, Int.reduceLT, Int.reduceLE, Int.reduceEq, Int.reduceNe, Int.reduceBEq, Int.reduceBNe, Int.reduceToNat, Int.reduceGT, Int.reduceGE, ↓reduceIte, decide_true, decide_false, eq_self, Nat.mul_one, Nat.zero_mul, Nat.one_mul, Int.le_refl, Nat.le_refl, Int.cast_ofNat_Int, hlt, hlz, hsh, q1, q2, unI_eq, cIx_len, cCo_len, cCu_len, p1, p2, Int.toNat_natCast, Span.cs, hA, hC, w1, w2, Span.t]
      refine hI1 _ ⟨k + 1, by omega⟩ (by simp only; omega) ?_
      simp (decide := true) (maxSteps := 4000000) only [go_sem, Nat.reduceAdd, Nat.reduceSub, Nat.reduceMul, Nat.reduceDiv, Nat.reduceMod, Nat.reduceLT, Nat.reduceLeDiff, Nat.reduceEqDiff, Nat.reduceBEq, Nat.reduceBNe, Nat.reduceGT, Int.reduceAdd, Int.reduceSub, Int.reduceMul, Int.reduceNeg, Int.reduceLT, Int.reduceLE, Int.reduceEq, Int.reduceNe, Int.reduceBEq, Int.reduceBNe, Int.reduceToNat, Int.reduceGT, Int.reduceGE, ↓reduceIte, decide_true, decide_false, eq_self, Nat.mul_one, Nat.zero_mul, Nat.one_mul, Int.le_refl, Nat.le_refl, Int.cast_ofNat_Int, hc1, hA2, hC2, Span.cs]
    · have hke : k = N := by omega
      subst hke
      simp (decide := true) (maxSteps := 4000000) only [go_sem, Nat.reduceAdd, Nat.reduceSub, Nat.reduceMul, Nat.reduceDiv, Nat.reduceMod, Nat.reduceLT, Nat.reduceLeDiff, Nat.reduceEqDiff, Nat.reduceBEq, Nat.reduceBNe, Nat.reduceGT, Int.reduceAdd, Int.reduceSub, Int.reduceMul, Int.reduceNeg, Int.reduceLT, Int.reduceLE, Int.reduceEq, Int.reduceNe, Int.reduceBEq, Int.reduceBNe, Int.reduceToNat, Int.reduceGT, Int.reduceGE, ↓reduceIte, decide_true, decide_false, eq_self, Nat.mul_one, Nat.zero_mul, Nat.one_mul, Int.le_refl, Nat.le_refl, Int.cast_ofNat_Int, hlt, hlz, hsh]
      refine hQ1 _ _ ?_
      simp (decide := true) (maxSteps := 4000000) only [go_sem, Nat.reduceAdd, Nat.reduceSub, Nat.reduceMul, Nat.reduceDiv, Nat.reduceMod, Nat.reduceLT, Nat.reduceLeDiff, Nat.reduceEqDiff, Nat.reduceBEq, Nat.reduceBNe, Nat.reduceGT, Int.reduceAdd, Int.reduceSub, Int.reduceMul, Int.reduceNeg, Int.reduceLT, Int.reduceLE, Int.reduceEq, Int.reduceNe, Int.reduceBEq, Int.reduceBNe, Int.reduceToNat, Int.reduceGT, Int.reduceGE, ↓reduceIte, decide_true, decide_false, eq_self, Nat.mul_one, Nat.zero_mul, Nat.one_mul, Int.le_refl, Nat.le_refl, Int.cast_ofNat_Int, Span.cs, Span.t]
noncomputable def rSpans : List TV → Option TV
  | [.agg [.sl cB n fB, .sl cT m fT], .agg [.int .i64 f, .int .i64 s, .int .i64 a, .int .i64 b, .int .i64 c]] => match unBlanks cB, unSpans cT with
    | some B, some T => if n = B.length ∧ m = T.length ∧ stockOk B T = true ∧ obOk B.length T.length ⟨f, s, a, b, c⟩ = true then some (.tup [(spansP B T ⟨f, s, a, b, c⟩).p.t, (spansP B T ⟨f, s, a, b, c⟩).c.t]) else none
    | _, _ => none
  | _ => none
theorem rSpans_ok : ∀ xs r, rSpans xs = some r → PCalls Try.prog 63 xs r := by
  intro xs r h
  unfold rSpans at h
  split at h
  · split at h
    · rename_i B T hB hT
      split at h
      · rename_i hc; cases h
        obtain ⟨rfl, rfl, h1, h2⟩ := hc
        rw [unBlanks_some hB, unSpans_some hT]
        exact r4Spans_c _ _ h1 ⟨_, _, _, _, _⟩ h2
      · cases h
    · cases h
  · cases h
attribute [go_sem] rSpans
noncomputable def spT1 : Pm.Spec := spS1.one 63 rSpans
@[go_sem] theorem spT1_p (f : FuncId) (xs : List TV) : spT1.p f xs = Pm.Spec.p (spS1.one 63 rSpans) f xs := rfl
@[go_sem] theorem spT1_h (f : FuncId) (ps : List PV) (hl : List PO) : spT1.h f ps hl = Pm.Spec.h (spS1.one 63 rSpans) f ps hl := rfl
@[go_sem] theorem spT1_fz (f : FuncId) : spT1.fz f = Pm.Spec.fz (spS1.one 63 rSpans) f := rfl
@[go_sem] theorem spT1_fr (f : FuncId) : spT1.fr f = Pm.Spec.fr (spS1.one 63 rSpans) f := rfl
@[go_sem] theorem spT1_mu (t : TypeId) : spT1.mu t = Pm.Spec.mu (spS1.one 63 rSpans) t := rfl
theorem spT1_ok : SpecOk Try.prog spT1 := Spec.one_ok rSpans_ok spS1_ok
theorem want0 : wantOk ⟨⟨0, 0⟩, 0⟩ = true := rfl
theorem r4SpansE_c {B : List Blank} {T : List Span} {sB sT : TV} (hB : IsRow Blank.cs sB B) (hT : IsRow Span.cs sT T) (hlB : B.length ≤ 5864062014806) (hlT : T.length ≤ 9000000000000) (o : Ob) : PCalls Try.prog 21 [.agg [sB, sT], o.t] (.tup [(spansE B T o).1.p.t, (spansE B T o).1.c.t, .int .i64 (spansE B T o).2]) := by
  have u1 : unBlanks [] = some [] := rfl
  have u2 : unSpans [] = some [] := rfl
  refine pcalls_by Try.mixes spT1_ok (fn := Try.f21) Try.func21 rfl (by kernel_rfl) (by show 2 ≤ _; decide) ?_
  unfold spansE
  cases hs : stockOk B T with
  | false => rcases hB with ⟨rfl, rfl⟩ | ⟨fB, rfl⟩ <;> rcases hT with ⟨rfl, rfl⟩ | ⟨fT, rfl⟩ <;> simp (decide := true) (maxSteps := 4000000) only [go_sem, Nat.reduceAdd, Nat.reduceSub, Nat.reduceMul, Nat.reduceDiv, Nat.reduceMod, Nat.reduceLT, Nat.reduceLeDiff, Nat.reduceEqDiff, Nat.reduceBEq, Nat.reduceBNe, Nat.reduceGT, Int.reduceAdd, Int.reduceSub, Int.reduceMul, Int.reduceNeg, Int.reduceLT, Int.reduceLE, Int.reduceEq, Int.reduceNe, Int.reduceBEq, Int.reduceBNe, Int.reduceToNat, Int.reduceGT, Int.reduceGE, ↓reduceIte, decide_true, decide_false, eq_self, Nat.mul_one, Nat.zero_mul, Nat.one_mul, Int.le_refl, Nat.le_refl, Int.cast_ofNat_Int, Try.f21, Ob.t, Ob.cs, u1, u2, hlB, hlT, askedG, hs, Span.t, Span.cs, List.length_nil]
  | true =>
    have hs' := stockOk_iff.1 hs
    obtain ⟨fB, rfl⟩ := hB.ne (by omega)
    obtain ⟨fT, rfl⟩ := hT.ne (by omega)
    cases ho : obOk B.length T.length o with
    | false => simp (decide := true) (maxSteps := 4000000) only [go_sem, Nat.reduceAdd, Nat.reduceSub, Nat.reduceMul, Nat.reduceDiv, Nat.reduceMod, Nat.reduceLT, Nat.reduceLeDiff, Nat.reduceEqDiff, Nat.reduceBEq, Nat.reduceBNe, Nat.reduceGT, Int.reduceAdd, Int.reduceSub, Int.reduceMul, Int.reduceNeg, Int.reduceLT, Int.reduceLE, Int.reduceEq, Int.reduceNe, Int.reduceBEq, Int.reduceBNe, Int.reduceToNat, Int.reduceGT, Int.reduceGE, ↓reduceIte, decide_true, decide_false, eq_self, Nat.mul_one, Nat.zero_mul, Nat.one_mul, Int.le_refl, Nat.le_refl, Int.cast_ofNat_Int, Try.f21, Ob.t, Ob.cs, hlB, hlT, askedG, want0, hs, ho, Span.t, Span.cs]
    | true => simp (decide := true) (maxSteps := 4000000) only [go_sem, Nat.reduceAdd, Nat.reduceSub, Nat.reduceMul, Nat.reduceDiv, Nat.reduceMod, Nat.reduceLT, Nat.reduceLeDiff, Nat.reduceEqDiff, Nat.reduceBEq, Nat.reduceBNe, Nat.reduceGT, Int.reduceAdd, Int.reduceSub, Int.reduceMul, Int.reduceNeg, Int.reduceLT, Int.reduceLE, Int.reduceEq, Int.reduceNe, Int.reduceBEq, Int.reduceBNe, Int.reduceToNat, Int.reduceGT, Int.reduceGE, ↓reduceIte, decide_true, decide_false, eq_self, Nat.mul_one, Nat.zero_mul, Nat.one_mul, Int.le_refl, Nat.le_refl, Int.cast_ofNat_Int, Try.f21, Ob.t, Ob.cs, hlB, hlT, askedG, want0, hs, ho, Span.t, Span.cs]
theorem worst_eq {c : Span} (h1 : -4000000000000000000 ≤ c.lo) (h2 : c.lo ≤ c.hi) (h3 : c.hi ≤ 4000000000000000000) : max (max c.lo (IntKind.i64.wrap (0 - c.lo))) (max c.hi (IntKind.i64.wrap (0 - c.hi))) = worstS c := by
  unfold worstS
  rw [wrap_in (by omega) (by omega), wrap_in (by omega) (by omega)]
  omega
theorem r4Good_c {B : List Blank} {T : List Span} (fB fT : Bool) (hs : stockOk B T = true) (w : Want) (o : Ob) (ho : obOk B.length T.length o = true) : PCalls Try.prog 66 [.agg [.sl (B.flatMap Blank.cs) B.length fB, .sl (T.flatMap Span.cs) T.length fT], w.t, o.t] (.tup [.bool (goodB (spansP B T o) w), .int .i64 (worstS (spansP B T o).c)]) := by
  have hb := spansP_bound hs ho
  have hw := worst_eq (c := (spansP B T o).c) (by omega) (by omega) (by omega)
  refine pcalls_by Try.mixes spT1_ok (fn := Try.f66) Try.func66 rfl (by kernel_rfl) (by show 3 ≤ _; decide) ?_
  unfold goodB
  simp (decide := true) (maxSteps := 4000000) only [go_sem, Nat.reduceAdd, Nat.reduceSub, Nat.reduceMul, Nat.reduceDiv, Nat.reduceMod, Nat.reduceLT, Nat.reduceLeDiff, Nat.reduceEqDiff, Nat.reduceBEq, Nat.reduceBNe, Nat.reduceGT, Int.reduceAdd, Int.reduceSub, Int.reduceMul, Int.reduceNeg, Int.reduceLT, Int.reduceLE, Int.reduceEq, Int.reduceNe, Int.reduceBEq, Int.reduceBNe, Int.reduceToNat, Int.reduceGT, Int.reduceGE, ↓reduceIte, decide_true, decide_false, eq_self, Nat.mul_one, Nat.zero_mul, Nat.one_mul, Int.le_refl, Nat.le_refl, Int.cast_ofNat_Int, Try.f66, Ob.t, Ob.cs, Want.t, hs, ho, Span.t, Span.cs, hw]
end Go.Proofs.Ytcjcnmpecmbdeaa

/- Part Gy. -/
namespace Go.Proofs.Ytcjcnmpecmbdeaa
open Go.RowKit Go.Pm Go.Oc
set_option maxRecDepth 100000
set_option linter.unusedVariables false
set_option maxHeartbeats 4000000

noncomputable def rGoodV : List TV → Option TV
  | [.agg [.sl cB n fB, .sl cT m fT], .agg [.int .i64 x, .int .i64 y, .int .i64 z], .agg [.int .i64 f, .int .i64 s, .int .i64 a, .int .i64 b, .int .i64 c]] => match unBlanks cB, unSpans cT with
    | some B, some T => if n = B.length ∧ m = T.length ∧ stockOk B T = true ∧ obOk B.length T.length ⟨f, s, a, b, c⟩ = true then some (.tup [.bool (goodB (spansP B T ⟨f, s, a, b, c⟩) ⟨⟨x, y⟩, z⟩), .int .i64 (worstS (spansP B T ⟨f, s, a, b, c⟩).c)]) else none
    | _, _ => none
  | _ => none
theorem rGoodV_ok : ∀ xs r, rGoodV xs = some r → PCalls Try.prog 66 xs r := by
  intro xs r h
  unfold rGoodV at h
  split at h
  · split at h
    · rename_i B T hB hT
      split at h
      · rename_i hc; cases h
        obtain ⟨rfl, rfl, h1, h2⟩ := hc
        rw [unBlanks_some hB, unSpans_some hT]
        exact r4Good_c _ _ h1 ⟨⟨_, _⟩, _⟩ ⟨_, _, _, _, _⟩ h2
      · cases h
    · cases h
  · cases h
attribute [go_sem] rGoodV
noncomputable def spY1 : Pm.Spec := spT1.one 66 rGoodV
@[go_sem] theorem spY1_p (f : FuncId) (xs : List TV) : spY1.p f xs = Pm.Spec.p (spT1.one 66 rGoodV) f xs := rfl
@[go_sem] theorem spY1_h (f : FuncId) (ps : List PV) (hl : List PO) : spY1.h f ps hl = Pm.Spec.h (spT1.one 66 rGoodV) f ps hl := rfl
@[go_sem] theorem spY1_fz (f : FuncId) : spY1.fz f = Pm.Spec.fz (spT1.one 66 rGoodV) f := rfl
@[go_sem] theorem spY1_fr (f : FuncId) : spY1.fr f = Pm.Spec.fr (spT1.one 66 rGoodV) f := rfl
@[go_sem] theorem spY1_mu (t : TypeId) : spY1.mu t = Pm.Spec.mu (spT1.one 66 rGoodV) t := rfl
theorem spY1_ok : SpecOk Try.prog spY1 := Spec.one_ok rGoodV_ok spT1_ok
theorem r4GoodE_c {B : List Blank} {T : List Span} {sB sT : TV} (hB : IsRow Blank.cs sB B) (hT : IsRow Span.cs sT T) (hlB : B.length ≤ 5864062014806) (hlT : T.length ≤ 9000000000000) (w : Want) (o : Ob) : PCalls Try.prog 24 [.agg [sB, sT], w.t, o.t] (.tup [.bool (goodE B T w o).1, .int .i64 (goodE B T w o).2]) := by
  have u1 : unBlanks [] = some [] := rfl
  have u2 : unSpans [] = some [] := rfl
  refine pcalls_by Try.mixes spY1_ok (fn := Try.f24) Try.func24 rfl (by kernel_rfl) (by show 3 ≤ _; decide) ?_
  unfold goodE askedG
  cases hs : stockOk B T with
  | false => rcases hB with ⟨rfl, rfl⟩ | ⟨fB, rfl⟩ <;> rcases hT with ⟨rfl, rfl⟩ | ⟨fT, rfl⟩ <;> simp (decide := true) (maxSteps := 4000000) only [go_sem, Nat.reduceAdd, Nat.reduceSub, Nat.reduceMul, Nat.reduceDiv, Nat.reduceMod, Nat.reduceLT, Nat.reduceLeDiff, Nat.reduceEqDiff, Nat.reduceBEq, Nat.reduceBNe, Nat.reduceGT, Int.reduceAdd, Int.reduceSub, Int.reduceMul, Int.reduceNeg, Int.reduceLT, Int.reduceLE, Int.reduceEq, Int.reduceNe, Int.reduceBEq, Int.reduceBNe, Int.reduceToNat, Int.reduceGT, Int.reduceGE, ↓reduceIte, decide_true, decide_false, eq_self, Nat.mul_one, Nat.zero_mul, Nat.one_mul, Int.le_refl, Nat.le_refl, Int.cast_ofNat_Int, Try.f24, Ob.t, Ob.cs, Want.t, u1, u2, hlB, hlT, askedG, hs, List.length_nil]
  | true =>
    have hs' := stockOk_iff.1 hs
    obtain ⟨fB, rfl⟩ := hB.ne (by omega)
    obtain ⟨fT, rfl⟩ := hT.ne (by omega)
    cases hw : wantOk w with
    | false => simp (decide := true) (maxSteps := 4000000) only [go_sem, Nat.reduceAdd, Nat.reduceSub, Nat.reduceMul, Nat.reduceDiv, Nat.reduceMod, Nat.reduceLT, Nat.reduceLeDiff, Nat.reduceEqDiff, Nat.reduceBEq, Nat.reduceBNe, Nat.reduceGT, Int.reduceAdd, Int.reduceSub, Int.reduceMul, Int.reduceNeg, Int.reduceLT, Int.reduceLE, Int.reduceEq, Int.reduceNe, Int.reduceBEq, Int.reduceBNe, Int.reduceToNat, Int.reduceGT, Int.reduceGE, ↓reduceIte, decide_true, decide_false, eq_self, Nat.mul_one, Nat.zero_mul, Nat.one_mul, Int.le_refl, Nat.le_refl, Int.cast_ofNat_Int, Try.f24, Ob.t, Ob.cs, Want.t, hlB, hlT, askedG, hs, hw]
    | true =>
      cases ho : obOk B.length T.length o with
      | false => simp (decide := true) (maxSteps := 4000000) only [go_sem, Nat.reduceAdd, Nat.reduceSub, Nat.reduceMul, Nat.reduceDiv, Nat.reduceMod, Nat.reduceLT, Nat.reduceLeDiff, Nat.reduceEqDiff, Nat.reduceBEq, Nat.reduceBNe, Nat.reduceGT, Int.reduceAdd, Int.reduceSub, Int.reduceMul, Int.reduceNeg, Int.reduceLT, Int.reduceLE, Int.reduceEq, Int.reduceNe, Int.reduceBEq, Int.reduceBNe, Int.reduceToNat, Int.reduceGT, Int.reduceGE, ↓reduceIte, decide_true, decide_false, eq_self, Nat.mul_one, Nat.zero_mul, Nat.one_mul, Int.le_refl, Nat.le_refl, Int.cast_ofNat_Int, Try.f24, Ob.t, Ob.cs, Want.t, hlB, hlT, askedG, hs, hw, ho]
      | true => simp (decide := true) (maxSteps := 4000000) only [go_sem, Nat.reduceAdd, Nat.reduceSub, Nat.reduceMul, Nat.reduceDiv, Nat.reduceMod, Nat.reduceLT, Nat.reduceLeDiff, Nat.reduceEqDiff, Nat.reduceBEq, Nat.reduceBNe, Nat.reduceGT, Int.reduceAdd, Int.reduceSub, Int.reduceMul, Int.reduceNeg, Int.reduceLT, Int.reduceLE, Int.reduceEq, Int.reduceNe, Int.reduceBEq, Int.reduceBNe, Int.reduceToNat, Int.reduceGT, Int.reduceGE, ↓reduceIte, decide_true, decide_false, eq_self, Nat.mul_one, Nat.zero_mul, Nat.one_mul, Int.le_refl, Nat.le_refl, Int.cast_ofNat_Int, Try.f24, Ob.t, Ob.cs, Want.t, hlB, hlT, askedG, hs, hw, ho]
theorem r4Seen_c {B : List Blank} {T : List Span} {sB sT sI sC sK : TV} {ix co cu : List Int} (hB : IsRow Blank.cs sB B) (hT : IsRow Span.cs sT T) (hlB : B.length ≤ 5864062014806) (hlT : T.length ≤ 9000000000000) (hI : IsRow ic sI ix) (hC : IsRow ic sC co) (hK : IsRow ic sK cu) (o : Ob) :
    PCalls Try.prog 17 [.agg [sB, sT], o.t, .agg [sI, sC, sK]] (.tup [.int .i64 (seenP B T o ix co cu).1, .int .i64 (seenP B T o ix co cu).2.1, .int .i64 (seenP B T o ix co cu).2.2]) := by
  have u1 : unBlanks [] = some [] := rfl
  have u2 : unSpans [] = some [] := rfl
  refine pcalls_by Try.mixes spY1_ok (fn := Try.f17) Try.func17 rfl (by kernel_rfl) (by show 3 ≤ _; decide) ?_
  unfold seenP
  cases hs : stockOk B T with
  | false => rcases hB with ⟨rfl, rfl⟩ | ⟨fB, rfl⟩ <;> rcases hT with ⟨rfl, rfl⟩ | ⟨fT, rfl⟩ <;> simp (decide := true) (maxSteps := 4000000) only [go_sem, Nat.reduceAdd, Nat.reduceSub, Nat.reduceMul, Nat.reduceDiv, Nat.reduceMod, Nat.reduceLT, Nat.reduceLeDiff, Nat.reduceEqDiff, Nat.reduceBEq, Nat.reduceBNe, Nat.reduceGT, Int.reduceAdd, Int.reduceSub, Int.reduceMul, Int.reduceNeg, Int.reduceLT, Int.reduceLE, Int.reduceEq, Int.reduceNe, Int.reduceBEq, Int.reduceBNe, Int.reduceToNat, Int.reduceGT, Int.reduceGE, ↓reduceIte, decide_true, decide_false, eq_self, Nat.mul_one, Nat.zero_mul, Nat.one_mul, Int.le_refl, Nat.le_refl, Int.cast_ofNat_Int, Try.f17, Ob.t, Ob.cs, u1, u2, hlB, hlT, askedG, hs, List.length_nil]
  | true =>
    have hs' := stockOk_iff.1 hs
    obtain ⟨fB, rfl⟩ := hB.ne (by omega)
    obtain ⟨fT, rfl⟩ := hT.ne (by omega)
    cases ho : obOk B.length T.length o with
    | false => simp (decide := true) (maxSteps := 4000000) only [go_sem, Nat.reduceAdd, Nat.reduceSub, Nat.reduceMul, Nat.reduceDiv, Nat.reduceMod, Nat.reduceLT, Nat.reduceLeDiff, Nat.reduceEqDiff, Nat.reduceBEq, Nat.reduceBNe, Nat.reduceGT, Int.reduceAdd, Int.reduceSub, Int.reduceMul, Int.reduceNeg, Int.reduceLT, Int.reduceLE, Int.reduceEq, Int.reduceNe, Int.reduceBEq, Int.reduceBNe, Int.reduceToNat, Int.reduceGT, Int.reduceGE, ↓reduceIte, decide_true, decide_false, eq_self, Nat.mul_one, Nat.zero_mul, Nat.one_mul, Int.le_refl, Nat.le_refl, Int.cast_ofNat_Int, Try.f17, Ob.t, Ob.cs, hlB, hlT, askedG, want0, hs, ho]
    | true =>
      have ho' := obOk_iff.1 ho
      have z0 : ((0 : Int) == (B.length : Int)) = false := beq_int_f (by omega)
      have z1 : ((0 : Int) == (T.length : Int)) = false := beq_int_f (by omega)
      have no : ∀ (l1 l2 : Nat), True := fun _ _ => trivial
      by_cases hl1 : ix.length = B.length
      · obtain ⟨fI, rfl⟩ := hI.ne (by omega)
        have h1 : ((ix.length : Int) == (B.length : Int)) = true := beq_int_t (by omega)
        by_cases hl2 : co.length = B.length
        · obtain ⟨fC, rfl⟩ := hC.ne (by omega)
          have h2 : ((co.length : Int) == (B.length : Int)) = true := beq_int_t (by omega)
          by_cases hl3 : cu.length = T.length
          · obtain ⟨fK, rfl⟩ := hK.ne (by omega)
            have h3 : ((cu.length : Int) == (T.length : Int)) = true := beq_int_t (by omega)
            have hto : truthOk B T ix co cu = (tOkB B ix co B.length && tOkT T cu T.length) := by unfold truthOk; simp [hl1, hl2, hl3]
            rw [hto]
            simp (decide := true) (maxSteps := 4000000) only [go_sem, Nat.reduceAdd, Nat.reduceSub, Nat.reduceMul, Nat.reduceDiv, Nat.reduceMod, Nat.reduceLT, Nat.reduceLeDiff, Nat.reduceEqDiff, Nat.reduceBEq, Nat.reduceBNe, Nat.reduceGT, Int.reduceAdd, Int.reduceSub, Int.reduceMul, Int.reduceNeg, Int.reduceLT, Int.reduceLE, Int.reduceEq, Int.reduceNe, Int.reduceBEq, Int.reduceBNe, Int.reduceToNat, Int.reduceGT, Int.reduceGE, ↓reduceIte, decide_true, decide_false, eq_self, Nat.mul_one, Nat.zero_mul, Nat.one_mul, Int.le_refl, Nat.le_refl, Int.cast_ofNat_Int, Try.f17, Ob.t, Ob.cs, hlB, hlT, askedG, want0, hs, ho, h1, h2, h3, ic_ints]
            refine pwpC_loopU (A := { k : Nat // k ≤ B.length }) [3, 4, 5] (fun k => [(11, .t (.int .i64 k.1)), (10, .t (.bool (tOkB B ix co k.1)))]) (fun _ => []) (fun k => B.length - k.1) ⟨0, by omega⟩ (by decide) (fun _ => by rfl) ?_ fun Q1 hQ1 ⟨k, hk⟩ I1 hI1 => ?_
            · simp (decide := true) (maxSteps := 4000000) only [go_sem, Nat.reduceAdd, Nat.reduceSub, Nat.reduceMul, Nat.reduceDiv, Nat.reduceMod, Nat.reduceLT, Nat.reduceLeDiff, Nat.reduceEqDiff, Nat.reduceBEq, Nat.reduceBNe, Nat.reduceGT, Int.reduceAdd, Int.reduceSub, Int.reduceMul, Int.reduceNeg, Int.reduceLT, Int.reduceLE, Int.reduceEq, Int.reduceNe, Int.reduceBEq, Int.reduceBNe, Int.reduceToNat, Int.reduceGT, Int.reduceGE, ↓reduceIte, decide_true, decide_false, eq_self, Nat.mul_one, Nat.zero_mul, Nat.one_mul, Int.le_refl, Nat.le_refl, Int.cast_ofNat_Int, tOkB, List.range_zero, List.all_nil]
              first | done | rfl
            · rcases (Bool.eq_false_or_eq_true (tOkB B ix co k)).symm with hok | hok
              · have hno := tOkB_no hok hk
                simp (decide := true) (maxSteps := 4000000) only [go_sem, Nat.reduceAdd, Nat.reduceSub, Nat.reduceMul, Nat.reduceDiv, Nat.reduceMod, Nat.reduceLT, Nat.reduceLeDiff, Nat.reduceEqDiff, Nat.reduceBEq, Nat.reduceBNe, Nat.reduceGT, Int.reduceAdd, Int.reduceSub, Int.reduceMul, Int.reduceNeg, Int.reduceLT, Int.reduceLE, Int.reduceEq, Int.reduceNe, Int.reduceBEq, Int.reduceBNe, Int.reduceToNat, Int.reduceGT, Int.reduceGE, ↓reduceIte, decide_true, decide_false, eq_self, Nat.mul_one, Nat.zero_mul, Nat.one_mul, Int.le_refl, Nat.le_refl, Int.cast_ofNat_Int, hok]
                refine hQ1 _ _ ?_
                simp (decide := true) (maxSteps := 4000000) only [go_sem, Nat.reduceAdd, Nat.reduceSub, Nat.reduceMul, Nat.reduceDiv, Nat.reduceMod, Nat.reduceLT, Nat.reduceLeDiff, Nat.reduceEqDiff, Nat.reduceBEq, Nat.reduceBNe, Nat.reduceGT, Int.reduceAdd, Int.reduceSub, Int.reduceMul, Int.reduceNeg, Int.reduceLT, Int.reduceLE, Int.reduceEq, Int.reduceNe, Int.reduceBEq, Int.reduceBNe, Int.reduceToNat, Int.reduceGT, Int.reduceGE, ↓reduceIte, decide_true, decide_false, eq_self, Nat.mul_one, Nat.zero_mul, Nat.one_mul, Int.le_refl, Nat.le_refl, Int.cast_ofNat_Int]
                refine pwpC_loopU (A := Unit) [3, 4, 5] (fun _ => [(12, .t (.int .i64 0)), (10, .t (.bool false))]) (fun _ => []) (fun _ => 0) () (by decide) (fun _ => by rfl) ?_ fun Q2 hQ2 _ I2 hI2 => ?_
                · simp (decide := true) (maxSteps := 4000000) only [go_sem, Nat.reduceAdd, Nat.reduceSub, Nat.reduceMul, Nat.reduceDiv, Nat.reduceMod, Nat.reduceLT, Nat.reduceLeDiff, Nat.reduceEqDiff, Nat.reduceBEq, Nat.reduceBNe, Nat.reduceGT, Int.reduceAdd, Int.reduceSub, Int.reduceMul, Int.reduceNeg, Int.reduceLT, Int.reduceLE, Int.reduceEq, Int.reduceNe, Int.reduceBEq, Int.reduceBNe, Int.reduceToNat, Int.reduceGT, Int.reduceGE, ↓reduceIte, decide_true, decide_false, eq_self, Nat.mul_one, Nat.zero_mul, Nat.one_mul, Int.le_refl, Nat.le_refl, Int.cast_ofNat_Int, hok]
                · simp (decide := true) (maxSteps := 4000000) only [go_sem, Nat.reduceAdd, Nat.reduceSub, Nat.reduceMul, Nat.reduceDiv, Nat.reduceMod, Nat.reduceLT, Nat.reduceLeDiff, Nat.reduceEqDiff, Nat.reduceBEq, Nat.reduceBNe, Nat.reduceGT, Int.reduceAdd, Int.reduceSub, Int.reduceMul, Int.reduceNeg, Int.reduceLT, Int.reduceLE, Int.reduceEq, Int.reduceNe, Int.reduceBEq, Int.reduceBNe, Int.reduceToNat, Int.reduceGT, Int.reduceGE, ↓reduceIte, decide_true, decide_false, eq_self, Nat.mul_one, Nat.zero_mul, Nat.one_mul, Int.le_refl, Nat.le_refl, Int.cast_ofNat_Int]
                  refine hQ2 _ _ ?_
                  simp (decide := true) (maxSteps := 4000000) only [go_sem, Nat.reduceAdd, Nat.reduceSub, Nat.reduceMul, Nat.reduceDiv, Nat.reduceMod, Nat.reduceLT, Nat.reduceLeDiff, Nat.reduceEqDiff, Nat.reduceBEq, Nat.reduceBNe, Nat.reduceGT, Int.reduceAdd, Int.reduceSub, Int.reduceMul, Int.reduceNeg, Int.reduceLT, Int.reduceLE, Int.reduceEq, Int.reduceNe, Int.reduceBEq, Int.reduceBNe, Int.reduceToNat, Int.reduceGT, Int.reduceGE, ↓reduceIte, decide_true, decide_false, eq_self, Nat.mul_one, Nat.zero_mul, Nat.one_mul, Int.le_refl, Nat.le_refl, Int.cast_ofNat_Int, hno, Bool.false_and]
              · by_cases hlt : (k : Int) < B.length
                · obtain ⟨x, hx⟩ := get_lt hlt
                  obtain ⟨v, hv⟩ := get_lt (l := ix) (k := k) (by omega)
                  obtain ⟨u, hu⟩ := get_lt (l := co) (k := k) (by omega)
                  have lv : (k : Int) < ix.length := by omega
                  have lu : (k : Int) < co.length := by omega
                  have dx := flat_at Blank.cs (n := 5) (fun _ => rfl) hx
                  have dv := ints_at hv
                  have du := ints_at hu
                  rw [Nat.mul_one] at dv du
                  have hc1 : IntKind.i64.wrap (k + 1) = ((k + 1 : Nat) : Int) := by rw [wrap_in (by omega) (by omega)]; omega
                  have hsu := tOkB_succ B ix co k
                  rw [nth_eq hv, nth_eq hu, blankAt_eq hx] at hsu
                  cases h4 : inB v x.i.lo x.i.hi <;> cases h5 : inB u x.c.lo x.c.hi <;> rw [hok, h4, h5] at hsu
                  all_goals simp (decide := true) (maxSteps := 4000000) only [go_sem, Nat.reduceAdd, Nat.reduceSub, Nat.reduceMul, Nat.reduceDiv, Nat.reduceMod, Nat.reduceLT, Nat.reduceLeDiff, Nat.reduceEqDiff, Nat.reduceBEq, Nat.reduceBNe, Nat.reduceGT, Int.reduceAdd, Int.reduceSub, Int.reduceMul, Int.reduceNeg, Int.reduceLT, Int.reduceLE, Int.reduceEq, Int.reduceNe, Int.reduceBEq, Int.reduceBNe, Int.reduceToNat, Int.reduceGT, Int.reduceGE, ↓reduceIte, decide_true, decide_false, eq_self, Nat.mul_one, Nat.zero_mul, Nat.one_mul, Int.le_refl, Nat.le_refl, Int.cast_ofNat_Int, hlt, lv, lu, dx, Blank.cs, dv, du, hok, h4, h5, Int.toNat_natCast]
                  all_goals refine hI1 _ ⟨k + 1, by omega⟩ (by simp only; omega) ?_
                  all_goals simp (decide := true) (maxSteps := 4000000) only [go_sem, Nat.reduceAdd, Nat.reduceSub, Nat.reduceMul, Nat.reduceDiv, Nat.reduceMod, Nat.reduceLT, Nat.reduceLeDiff, Nat.reduceEqDiff, Nat.reduceBEq, Nat.reduceBNe, Nat.reduceGT, Int.reduceAdd, Int.reduceSub, Int.reduceMul, Int.reduceNeg, Int.reduceLT, Int.reduceLE, Int.reduceEq, Int.reduceNe, Int.reduceBEq, Int.reduceBNe, Int.reduceToNat, Int.reduceGT, Int.reduceGE, ↓reduceIte, decide_true, decide_false, eq_self, Nat.mul_one, Nat.zero_mul, Nat.one_mul, Int.le_refl, Nat.le_refl, Int.cast_ofNat_Int, hc1, hsu, Bool.and_true, Bool.and_false, Bool.and_self, Bool.false_and]
                · have hke : k = B.length := by omega
                  subst hke
                  simp (decide := true) (maxSteps := 4000000) only [go_sem, Nat.reduceAdd, Nat.reduceSub, Nat.reduceMul, Nat.reduceDiv, Nat.reduceMod, Nat.reduceLT, Nat.reduceLeDiff, Nat.reduceEqDiff, Nat.reduceBEq, Nat.reduceBNe, Nat.reduceGT, Int.reduceAdd, Int.reduceSub, Int.reduceMul, Int.reduceNeg, Int.reduceLT, Int.reduceLE, Int.reduceEq, Int.reduceNe, Int.reduceBEq, Int.reduceBNe, Int.reduceToNat, Int.reduceGT, Int.reduceGE, ↓reduceIte, decide_true, decide_false, eq_self, Nat.mul_one, Nat.zero_mul, Nat.one_mul, Int.le_refl, Nat.le_refl, Int.cast_ofNat_Int, hlt, hok]
                  refine hQ1 _ _ ?_
                  simp (decide := true) (maxSteps := 4000000) only [go_sem, Nat.reduceAdd, Nat.reduceSub, Nat.reduceMul, Nat.reduceDiv, Nat.reduceMod, Nat.reduceLT, Nat.reduceLeDiff, Nat.reduceEqDiff, Nat.reduceBEq, Nat.reduceBNe, Nat.reduceGT, Int.reduceAdd, Int.reduceSub, Int.reduceMul, Int.reduceNeg, Int.reduceLT, Int.reduceLE, Int.reduceEq, Int.reduceNe, Int.reduceBEq, Int.reduceBNe, Int.reduceToNat, Int.reduceGT, Int.reduceGE, ↓reduceIte, decide_true, decide_false, eq_self, Nat.mul_one, Nat.zero_mul, Nat.one_mul, Int.le_refl, Nat.le_refl, Int.cast_ofNat_Int]
                  refine pwpC_loopU (A := { k : Nat // k ≤ T.length }) [3, 4, 5] (fun k => [(12, .t (.int .i64 k.1)), (10, .t (.bool (tOkT T cu k.1)))]) (fun _ => []) (fun k => T.length - k.1) ⟨0, by omega⟩ (by decide) (fun _ => by rfl) ?_ fun Q2 hQ2 ⟨m, hm⟩ I2 hI2 => ?_
                  · simp (decide := true) (maxSteps := 4000000) only [go_sem, Nat.reduceAdd, Nat.reduceSub, Nat.reduceMul, Nat.reduceDiv, Nat.reduceMod, Nat.reduceLT, Nat.reduceLeDiff, Nat.reduceEqDiff, Nat.reduceBEq, Nat.reduceBNe, Nat.reduceGT, Int.reduceAdd, Int.reduceSub, Int.reduceMul, Int.reduceNeg, Int.reduceLT, Int.reduceLE, Int.reduceEq, Int.reduceNe, Int.reduceBEq, Int.reduceBNe, Int.reduceToNat, Int.reduceGT, Int.reduceGE, ↓reduceIte, decide_true, decide_false, eq_self, Nat.mul_one, Nat.zero_mul, Nat.one_mul, Int.le_refl, Nat.le_refl, Int.cast_ofNat_Int, hok, tOkT, List.range_zero, List.all_nil]
                    first | done | rfl
                  · rcases (Bool.eq_false_or_eq_true (tOkT T cu m)).symm with hok2 | hok2
                    · have hno := tOkT_no hok2 hm
                      simp (decide := true) (maxSteps := 4000000) only [go_sem, Nat.reduceAdd, Nat.reduceSub, Nat.reduceMul, Nat.reduceDiv, Nat.reduceMod, Nat.reduceLT, Nat.reduceLeDiff, Nat.reduceEqDiff, Nat.reduceBEq, Nat.reduceBNe, Nat.reduceGT, Int.reduceAdd, Int.reduceSub, Int.reduceMul, Int.reduceNeg, Int.reduceLT, Int.reduceLE, Int.reduceEq, Int.reduceNe, Int.reduceBEq, Int.reduceBNe, Int.reduceToNat, Int.reduceGT, Int.reduceGE, ↓reduceIte, decide_true, decide_false, eq_self, Nat.mul_one, Nat.zero_mul, Nat.one_mul, Int.le_refl, Nat.le_refl, Int.cast_ofNat_Int, hok2]
                      refine hQ2 _ _ ?_
                      simp (decide := true) (maxSteps := 4000000) only [go_sem, Nat.reduceAdd, Nat.reduceSub, Nat.reduceMul, Nat.reduceDiv, Nat.reduceMod, Nat.reduceLT, Nat.reduceLeDiff, Nat.reduceEqDiff, Nat.reduceBEq, Nat.reduceBNe, Nat.reduceGT, Int.reduceAdd, Int.reduceSub, Int.reduceMul, Int.reduceNeg, Int.reduceLT, Int.reduceLE, Int.reduceEq, Int.reduceNe, Int.reduceBEq, Int.reduceBNe, Int.reduceToNat, Int.reduceGT, Int.reduceGE, ↓reduceIte, decide_true, decide_false, eq_self, Nat.mul_one, Nat.zero_mul, Nat.one_mul, Int.le_refl, Nat.le_refl, Int.cast_ofNat_Int, hno, hok2, Bool.and_false]
                    · by_cases hlt2 : (m : Int) < T.length
                      · obtain ⟨y, hy⟩ := get_lt hlt2
                        obtain ⟨v, hv⟩ := get_lt (l := cu) (k := m) (by omega)
                        have lv : (m : Int) < cu.length := by omega
                        have dy := flat_at Span.cs (n := 2) (fun _ => rfl) hy
                        have dv := ints_at hv
                        rw [Nat.mul_one] at dv
                        have hc1 : IntKind.i64.wrap (m + 1) = ((m + 1 : Nat) : Int) := by rw [wrap_in (by omega) (by omega)]; omega
                        have hsu := tOkT_succ T cu m
                        rw [nth_eq hv, toolAt_eq hy, hok2, Bool.true_and] at hsu
                        simp (decide := true) (maxSteps := 4000000) only [go_sem, Nat.reduceAdd, Nat.reduceSub, Nat.reduceMul, Nat.reduceDiv, Nat.reduceMod, Nat.reduceLT, Nat.reduceLeDiff, Nat.reduceEqDiff, Nat.reduceBEq, Nat.reduceBNe, Nat.reduceGT, Int.reduceAdd, Int.reduceSub, Int.reduceMul, Int.reduceNeg, Int.reduceLT, Int.reduceLE, Int.reduceEq, Int.reduceNe, Int.reduceBEq, Int.reduceBNe, Int.reduceToNat, Int.reduceGT, Int.reduceGE, ↓reduceIte, decide_true, decide_false, eq_self, Nat.mul_one, Nat.zero_mul, Nat.one_mul, Int.le_refl, Nat.le_refl, Int.cast_ofNat_Int, hlt2, lv, dy, Span.cs, dv, hok2, Int.toNat_natCast]
                        refine hI2 _ ⟨m + 1, by omega⟩ (by simp only; omega) ?_
                        simp (decide := true) (maxSteps := 4000000) only [go_sem, Nat.reduceAdd, Nat.reduceSub, Nat.reduceMul, Nat.reduceDiv, Nat.reduceMod, Nat.reduceLT, Nat.reduceLeDiff, Nat.reduceEqDiff, Nat.reduceBEq, Nat.reduceBNe, Nat.reduceGT, Int.reduceAdd, Int.reduceSub, Int.reduceMul, Int.reduceNeg, Int.reduceLT, Int.reduceLE, Int.reduceEq, Int.reduceNe, Int.reduceBEq, Int.reduceBNe, Int.reduceToNat, Int.reduceGT, Int.reduceGE, ↓reduceIte, decide_true, decide_false, eq_self, Nat.mul_one, Nat.zero_mul, Nat.one_mul, Int.le_refl, Nat.le_refl, Int.cast_ofNat_Int, hc1, hsu]
                      · have hme : m = T.length := by omega
                        subst hme
                        have hk2 : (tOkB B ix co B.length && tOkT T cu T.length) = true := by rw [hok, hok2]; rfl
                        have q : (0 ≤ o.f ∧ o.f < ix.length) ∧ (0 ≤ o.s ∧ o.s < ix.length) ∧ co.length = ix.length ∧ (0 ≤ o.a ∧ o.a < cu.length) ∧ (0 ≤ o.b ∧ o.b < cu.length) ∧ 0 ≤ o.c ∧ o.c < cu.length := by omega
                        have fB_ : ∀ t : Int, 0 ≤ t → t < B.length → (1 ≤ nth ix t ∧ nth ix t ≤ 100000) ∧ 1 ≤ nth co t ∧ nth co t ≤ 5000 := by
                          intro t g0 g1
                          obtain ⟨j, rfl⟩ := Int.eq_ofNat_of_zero_le g0
                          have r := tOkB_at hok (i := j) (by omega)
                          have z := blank_ok hs g0 g1
                          omega
                        have fT_ : ∀ t : Int, 0 ≤ t → t < T.length → -1000 ≤ nth cu t ∧ nth cu t ≤ 1000 := by
                          intro t g0 g1
                          obtain ⟨j, rfl⟩ := Int.eq_ofNat_of_zero_le g0
                          have r := tOkT_at hok2 (i := j) (by omega)
                          have z := tool_ok hs g0 g1
                          omega
                        have g1 := fB_ o.f (by omega) (by omega)
                        have g2 := fB_ o.s (by omega) (by omega)
                        have g3 := fT_ o.a (by omega) (by omega)
                        have g4 := fT_ o.b (by omega) (by omega)
                        have g5 := fT_ o.c (by omega) (by omega)
                        have q1 : pwW (nth ix o.f) (nth ix o.s) (nth cu o.a) (nth cu o.b) (nth cu o.c) = pw (nth ix o.f) (nth ix o.s) (nth cu o.a) (nth cu o.b) (nth cu o.c) := (pw_wrap (by omega) (by omega) (by omega) (by omega) (by omega)).1
                        have q2 : pwW (nth co o.f) (nth co o.s) (nth cu o.a) (nth cu o.b) (nth cu o.c) = pw (nth co o.f) (nth co o.s) (nth cu o.a) (nth cu o.b) (nth cu o.c) := (pw_wrap (by omega) (by omega) (by omega) (by omega) (by omega)).1
                        simp (decide := true) (maxSteps := 4000000) only [go_sem, Nat.reduceAdd, Nat.reduceSub, Nat.reduceMul, Nat.reduceDiv, Nat.reduceMod, Nat.reduceLT, Nat.reduceLeDiff, Nat.reduceEqDiff, Nat.reduceBEq, Nat.reduceBNe, Nat.reduceGT, Int.reduceAdd, Int.reduceSub, Int.reduceMul, Int.reduceNeg, Int.reduceLT, Int.reduceLE, Int.reduceEq, Int.reduceNe, Int.reduceBEq, Int.reduceBNe, Int.reduceToNat, Int.reduceGT, Int.reduceGE, ↓reduceIte, decide_true, decide_false, eq_self, Nat.mul_one, Nat.zero_mul, Nat.one_mul, Int.le_refl, Nat.le_refl, Int.cast_ofNat_Int, hlt2, hok2]
                        refine hQ2 _ _ ?_
                        simp (decide := true) (maxSteps := 4000000) only [go_sem, Nat.reduceAdd, Nat.reduceSub, Nat.reduceMul, Nat.reduceDiv, Nat.reduceMod, Nat.reduceLT, Nat.reduceLeDiff, Nat.reduceEqDiff, Nat.reduceBEq, Nat.reduceBNe, Nat.reduceGT, Int.reduceAdd, Int.reduceSub, Int.reduceMul, Int.reduceNeg, Int.reduceLT, Int.reduceLE, Int.reduceEq, Int.reduceNe, Int.reduceBEq, Int.reduceBNe, Int.reduceToNat, Int.reduceGT, Int.reduceGE, ↓reduceIte, decide_true, decide_false, eq_self, Nat.mul_one, Nat.zero_mul, Nat.one_mul, Int.le_refl, Nat.le_refl, Int.cast_ofNat_Int, hk2, hok, hok2, unI_eq, q, q1, q2]
          · have h3 : ((cu.length : Int) == (T.length : Int)) = false := beq_int_f (by omega)
            have hto : truthOk B T ix co cu = false := by unfold truthOk; simp [hl3]
            rcases hK with ⟨rfl, rfl⟩ | ⟨fK, rfl⟩
            all_goals
              simp (decide := true) (maxSteps := 4000000) only [go_sem, Nat.reduceAdd, Nat.reduceSub, Nat.reduceMul, Nat.reduceDiv, Nat.reduceMod, Nat.reduceLT, Nat.reduceLeDiff, Nat.reduceEqDiff, Nat.reduceBEq, Nat.reduceBNe, Nat.reduceGT, Int.reduceAdd, Int.reduceSub, Int.reduceMul, Int.reduceNeg, Int.reduceLT, Int.reduceLE, Int.reduceEq, Int.reduceNe, Int.reduceBEq, Int.reduceBNe, Int.reduceToNat, Int.reduceGT, Int.reduceGE, ↓reduceIte, decide_true, decide_false, eq_self, Nat.mul_one, Nat.zero_mul, Nat.one_mul, Int.le_refl, Nat.le_refl, Int.cast_ofNat_Int, Try.f17, Ob.t, Ob.cs, hlB, hlT, askedG, want0, hs, ho, h1, h2, h3, z0, z1, hto]
              refine pwpC_loopU (A := Unit) [3, 4, 5] (fun _ => [(11, .t (.int .i64 0)), (10, .t (.bool false))]) (fun _ => []) (fun _ => 0) () (by decide) (fun _ => by rfl) ?_ fun Q1 hQ1 _ I1 hI1 => ?_
              · simp (decide := true) (maxSteps := 4000000) only [go_sem, Nat.reduceAdd, Nat.reduceSub, Nat.reduceMul, Nat.reduceDiv, Nat.reduceMod, Nat.reduceLT, Nat.reduceLeDiff, Nat.reduceEqDiff, Nat.reduceBEq, Nat.reduceBNe, Nat.reduceGT, Int.reduceAdd, Int.reduceSub, Int.reduceMul, Int.reduceNeg, Int.reduceLT, Int.reduceLE, Int.reduceEq, Int.reduceNe, Int.reduceBEq, Int.reduceBNe, Int.reduceToNat, Int.reduceGT, Int.reduceGE, ↓reduceIte, decide_true, decide_false, eq_self, Nat.mul_one, Nat.zero_mul, Nat.one_mul, Int.le_refl, Nat.le_refl, Int.cast_ofNat_Int]
              · simp (decide := true) (maxSteps := 4000000) only [go_sem, Nat.reduceAdd, Nat.reduceSub, Nat.reduceMul, Nat.reduceDiv, Nat.reduceMod, Nat.reduceLT, Nat.reduceLeDiff, Nat.reduceEqDiff, Nat.reduceBEq, Nat.reduceBNe, Nat.reduceGT, Int.reduceAdd, Int.reduceSub, Int.reduceMul, Int.reduceNeg, Int.reduceLT, Int.reduceLE, Int.reduceEq, Int.reduceNe, Int.reduceBEq, Int.reduceBNe, Int.reduceToNat, Int.reduceGT, Int.reduceGE, ↓reduceIte, decide_true, decide_false, eq_self, Nat.mul_one, Nat.zero_mul, Nat.one_mul, Int.le_refl, Nat.le_refl, Int.cast_ofNat_Int]
                refine hQ1 _ _ ?_
                simp (decide := true) (maxSteps := 4000000) only [go_sem, Nat.reduceAdd, Nat.reduceSub, Nat.reduceMul, Nat.reduceDiv, Nat.reduceMod, Nat.reduceLT, Nat.reduceLeDiff, Nat.reduceEqDiff, Nat.reduceBEq, Nat.reduceBNe, Nat.reduceGT, Int.reduceAdd, Int.reduceSub, Int.reduceMul, Int.reduceNeg, Int.reduceLT, Int.reduceLE, Int.reduceEq, Int.reduceNe, Int.reduceBEq, Int.reduceBNe, Int.reduceToNat, Int.reduceGT, Int.reduceGE, ↓reduceIte, decide_true, decide_false, eq_self, Nat.mul_one, Nat.zero_mul, Nat.one_mul, Int.le_refl, Nat.le_refl, Int.cast_ofNat_Int]
                refine pwpC_loopU (A := Unit) [3, 4, 5] (fun _ => [(12, .t (.int .i64 0)), (10, .t (.bool false))]) (fun _ => []) (fun _ => 0) () (by decide) (fun _ => by rfl) ?_ fun Q2 hQ2 _ I2 hI2 => ?_
                · simp (decide := true) (maxSteps := 4000000) only [go_sem, Nat.reduceAdd, Nat.reduceSub, Nat.reduceMul, Nat.reduceDiv, Nat.reduceMod, Nat.reduceLT, Nat.reduceLeDiff, Nat.reduceEqDiff, Nat.reduceBEq, Nat.reduceBNe, Nat.reduceGT, Int.reduceAdd, Int.reduceSub, Int.reduceMul, Int.reduceNeg, Int.reduceLT, Int.reduceLE, Int.reduceEq, Int.reduceNe, Int.reduceBEq, Int.reduceBNe, Int.reduceToNat, Int.reduceGT, Int.reduceGE, ↓reduceIte, decide_true, decide_false, eq_self, Nat.mul_one, Nat.zero_mul, Nat.one_mul, Int.le_refl, Nat.le_refl, Int.cast_ofNat_Int]
                · simp (decide := true) (maxSteps := 4000000) only [go_sem, Nat.reduceAdd, Nat.reduceSub, Nat.reduceMul, Nat.reduceDiv, Nat.reduceMod, Nat.reduceLT, Nat.reduceLeDiff, Nat.reduceEqDiff, Nat.reduceBEq, Nat.reduceBNe, Nat.reduceGT, Int.reduceAdd, Int.reduceSub, Int.reduceMul, Int.reduceNeg, Int.reduceLT, Int.reduceLE, Int.reduceEq, Int.reduceNe, Int.reduceBEq, Int.reduceBNe, Int.reduceToNat, Int.reduceGT, Int.reduceGE, ↓reduceIte, decide_true, decide_false, eq_self, Nat.mul_one, Nat.zero_mul, Nat.one_mul, Int.le_refl, Nat.le_refl, Int.cast_ofNat_Int]
                  refine hQ2 _ _ ?_
                  simp (decide := true) (maxSteps := 4000000) only [go_sem, Nat.reduceAdd, Nat.reduceSub, Nat.reduceMul, Nat.reduceDiv, Nat.reduceMod, Nat.reduceLT, Nat.reduceLeDiff, Nat.reduceEqDiff, Nat.reduceBEq, Nat.reduceBNe, Nat.reduceGT, Int.reduceAdd, Int.reduceSub, Int.reduceMul, Int.reduceNeg, Int.reduceLT, Int.reduceLE, Int.reduceEq, Int.reduceNe, Int.reduceBEq, Int.reduceBNe, Int.reduceToNat, Int.reduceGT, Int.reduceGE, ↓reduceIte, decide_true, decide_false, eq_self, Nat.mul_one, Nat.zero_mul, Nat.one_mul, Int.le_refl, Nat.le_refl, Int.cast_ofNat_Int, hto]
        · have h2 : ((co.length : Int) == (B.length : Int)) = false := beq_int_f (by omega)
          have hto : truthOk B T ix co cu = false := by unfold truthOk; simp [hl2]
          rcases hC with ⟨rfl, rfl⟩ | ⟨fC, rfl⟩ <;> rcases hK with ⟨rfl, rfl⟩ | ⟨fK, rfl⟩
          all_goals
            simp (decide := true) (maxSteps := 4000000) only [go_sem, Nat.reduceAdd, Nat.reduceSub, Nat.reduceMul, Nat.reduceDiv, Nat.reduceMod, Nat.reduceLT, Nat.reduceLeDiff, Nat.reduceEqDiff, Nat.reduceBEq, Nat.reduceBNe, Nat.reduceGT, Int.reduceAdd, Int.reduceSub, Int.reduceMul, Int.reduceNeg, Int.reduceLT, Int.reduceLE, Int.reduceEq, Int.reduceNe, Int.reduceBEq, Int.reduceBNe, Int.reduceToNat, Int.reduceGT, Int.reduceGE, ↓reduceIte, decide_true, decide_false, eq_self, Nat.mul_one, Nat.zero_mul, Nat.one_mul, Int.le_refl, Nat.le_refl, Int.cast_ofNat_Int, Try.f17, Ob.t, Ob.cs, hlB, hlT, askedG, want0, hs, ho, h1, h2, z0, z1, hto]
            refine pwpC_loopU (A := Unit) [3, 4, 5] (fun _ => [(11, .t (.int .i64 0)), (10, .t (.bool false))]) (fun _ => []) (fun _ => 0) () (by decide) (fun _ => by rfl) ?_ fun Q1 hQ1 _ I1 hI1 => ?_
            · simp (decide := true) (maxSteps := 4000000) only [go_sem, Nat.reduceAdd, Nat.reduceSub, Nat.reduceMul, Nat.reduceDiv, Nat.reduceMod, Nat.reduceLT, Nat.reduceLeDiff, Nat.reduceEqDiff, Nat.reduceBEq, Nat.reduceBNe, Nat.reduceGT, Int.reduceAdd, Int.reduceSub, Int.reduceMul, Int.reduceNeg, Int.reduceLT, Int.reduceLE, Int.reduceEq, Int.reduceNe, Int.reduceBEq, Int.reduceBNe, Int.reduceToNat, Int.reduceGT, Int.reduceGE, ↓reduceIte, decide_true, decide_false, eq_self, Nat.mul_one, Nat.zero_mul, Nat.one_mul, Int.le_refl, Nat.le_refl, Int.cast_ofNat_Int]
            · simp (decide := true) (maxSteps := 4000000) only [go_sem, Nat.reduceAdd, Nat.reduceSub, Nat.reduceMul, Nat.reduceDiv, Nat.reduceMod, Nat.reduceLT, Nat.reduceLeDiff, Nat.reduceEqDiff, Nat.reduceBEq, Nat.reduceBNe, Nat.reduceGT, Int.reduceAdd, Int.reduceSub, Int.reduceMul, Int.reduceNeg, Int.reduceLT, Int.reduceLE, Int.reduceEq, Int.reduceNe, Int.reduceBEq, Int.reduceBNe, Int.reduceToNat, Int.reduceGT, Int.reduceGE, ↓reduceIte, decide_true, decide_false, eq_self, Nat.mul_one, Nat.zero_mul, Nat.one_mul, Int.le_refl, Nat.le_refl, Int.cast_ofNat_Int]
              refine hQ1 _ _ ?_
              simp (decide := true) (maxSteps := 4000000) only [go_sem, Nat.reduceAdd, Nat.reduceSub, Nat.reduceMul, Nat.reduceDiv, Nat.reduceMod, Nat.reduceLT, Nat.reduceLeDiff, Nat.reduceEqDiff, Nat.reduceBEq, Nat.reduceBNe, Nat.reduceGT, Int.reduceAdd, Int.reduceSub, Int.reduceMul, Int.reduceNeg, Int.reduceLT, Int.reduceLE, Int.reduceEq, Int.reduceNe, Int.reduceBEq, Int.reduceBNe, Int.reduceToNat, Int.reduceGT, Int.reduceGE, ↓reduceIte, decide_true, decide_false, eq_self, Nat.mul_one, Nat.zero_mul, Nat.one_mul, Int.le_refl, Nat.le_refl, Int.cast_ofNat_Int]
              refine pwpC_loopU (A := Unit) [3, 4, 5] (fun _ => [(12, .t (.int .i64 0)), (10, .t (.bool false))]) (fun _ => []) (fun _ => 0) () (by decide) (fun _ => by rfl) ?_ fun Q2 hQ2 _ I2 hI2 => ?_
              · simp (decide := true) (maxSteps := 4000000) only [go_sem, Nat.reduceAdd, Nat.reduceSub, Nat.reduceMul, Nat.reduceDiv, Nat.reduceMod, Nat.reduceLT, Nat.reduceLeDiff, Nat.reduceEqDiff, Nat.reduceBEq, Nat.reduceBNe, Nat.reduceGT, Int.reduceAdd, Int.reduceSub, Int.reduceMul, Int.reduceNeg, Int.reduceLT, Int.reduceLE, Int.reduceEq, Int.reduceNe, Int.reduceBEq, Int.reduceBNe, Int.reduceToNat, Int.reduceGT, Int.reduceGE, ↓reduceIte, decide_true, decide_false, eq_self, Nat.mul_one, Nat.zero_mul, Nat.one_mul, Int.le_refl, Nat.le_refl, Int.cast_ofNat_Int]
              · simp (decide := true) (maxSteps := 4000000) only [go_sem, Nat.reduceAdd, Nat.reduceSub, Nat.reduceMul, Nat.reduceDiv, Nat.reduceMod, Nat.reduceLT, Nat.reduceLeDiff, Nat.reduceEqDiff, Nat.reduceBEq, Nat.reduceBNe, Nat.reduceGT, Int.reduceAdd, Int.reduceSub, Int.reduceMul, Int.reduceNeg, Int.reduceLT, Int.reduceLE, Int.reduceEq, Int.reduceNe, Int.reduceBEq, Int.reduceBNe, Int.reduceToNat, Int.reduceGT, Int.reduceGE, ↓reduceIte, decide_true, decide_false, eq_self, Nat.mul_one, Nat.zero_mul, Nat.one_mul, Int.le_refl, Nat.le_refl, Int.cast_ofNat_Int]
                refine hQ2 _ _ ?_
                simp (decide := true) (maxSteps := 4000000) only [go_sem, Nat.reduceAdd, Nat.reduceSub, Nat.reduceMul, Nat.reduceDiv, Nat.reduceMod, Nat.reduceLT, Nat.reduceLeDiff, Nat.reduceEqDiff, Nat.reduceBEq, Nat.reduceBNe, Nat.reduceGT, Int.reduceAdd, Int.reduceSub, Int.reduceMul, Int.reduceNeg, Int.reduceLT, Int.reduceLE, Int.reduceEq, Int.reduceNe, Int.reduceBEq, Int.reduceBNe, Int.reduceToNat, Int.reduceGT, Int.reduceGE, ↓reduceIte, decide_true, decide_false, eq_self, Nat.mul_one, Nat.zero_mul, Nat.one_mul, Int.le_refl, Nat.le_refl, Int.cast_ofNat_Int, hto]
      · have h1 : ((ix.length : Int) == (B.length : Int)) = false := beq_int_f (by omega)
        have hto : truthOk B T ix co cu = false := by unfold truthOk; simp [hl1]
        rcases hI with ⟨rfl, rfl⟩ | ⟨fI, rfl⟩ <;> rcases hC with ⟨rfl, rfl⟩ | ⟨fC, rfl⟩ <;> rcases hK with ⟨rfl, rfl⟩ | ⟨fK, rfl⟩
        all_goals
          simp (decide := true) (maxSteps := 4000000) only [go_sem, Nat.reduceAdd, Nat.reduceSub, Nat.reduceMul, Nat.reduceDiv, Nat.reduceMod, Nat.reduceLT, Nat.reduceLeDiff, Nat.reduceEqDiff, Nat.reduceBEq, Nat.reduceBNe, Nat.reduceGT, Int.reduceAdd, Int.reduceSub, Int.reduceMul, Int.reduceNeg, Int.reduceLT, Int.reduceLE, Int.reduceEq, Int.reduceNe, Int.reduceBEq, Int.reduceBNe, Int.reduceToNat, Int.reduceGT, Int.reduceGE, ↓reduceIte, decide_true, decide_false, eq_self, Nat.mul_one, Nat.zero_mul, Nat.one_mul, Int.le_refl, Nat.le_refl, Int.cast_ofNat_Int, Try.f17, Ob.t, Ob.cs, hlB, hlT, askedG, want0, hs, ho, h1, z0, z1, hto]
          refine pwpC_loopU (A := Unit) [3, 4, 5] (fun _ => [(11, .t (.int .i64 0)), (10, .t (.bool false))]) (fun _ => []) (fun _ => 0) () (by decide) (fun _ => by rfl) ?_ fun Q1 hQ1 _ I1 hI1 => ?_
          · simp (decide := true) (maxSteps := 4000000) only [go_sem, Nat.reduceAdd, Nat.reduceSub, Nat.reduceMul, Nat.reduceDiv, Nat.reduceMod, Nat.reduceLT, Nat.reduceLeDiff, Nat.reduceEqDiff, Nat.reduceBEq, Nat.reduceBNe, Nat.reduceGT, Int.reduceAdd, Int.reduceSub, Int.reduceMul, Int.reduceNeg, Int.reduceLT, Int.reduceLE, Int.reduceEq, Int.reduceNe, Int.reduceBEq, Int.reduceBNe, Int.reduceToNat, Int.reduceGT, Int.reduceGE, ↓reduceIte, decide_true, decide_false, eq_self, Nat.mul_one, Nat.zero_mul, Nat.one_mul, Int.le_refl, Nat.le_refl, Int.cast_ofNat_Int]
          · simp (decide := true) (maxSteps := 4000000) only [go_sem, Nat.reduceAdd, Nat.reduceSub, Nat.reduceMul, Nat.reduceDiv, Nat.reduceMod, Nat.reduceLT, Nat.reduceLeDiff, Nat.reduceEqDiff, Nat.reduceBEq, Nat.reduceBNe, Nat.reduceGT, Int.reduceAdd, Int.reduceSub, Int.reduceMul, Int.reduceNeg, Int.reduceLT, Int.reduceLE, Int.reduceEq, Int.reduceNe, Int.reduceBEq, Int.reduceBNe, Int.reduceToNat, Int.reduceGT, Int.reduceGE, ↓reduceIte, decide_true, decide_false, eq_self, Nat.mul_one, Nat.zero_mul, Nat.one_mul, Int.le_refl, Nat.le_refl, Int.cast_ofNat_Int]
            refine hQ1 _ _ ?_
            simp (decide := true) (maxSteps := 4000000) only [go_sem, Nat.reduceAdd, Nat.reduceSub, Nat.reduceMul, Nat.reduceDiv, Nat.reduceMod, Nat.reduceLT, Nat.reduceLeDiff, Nat.reduceEqDiff, Nat.reduceBEq, Nat.reduceBNe, Nat.reduceGT, Int.reduceAdd, Int.reduceSub, Int.reduceMul, Int.reduceNeg, Int.reduceLT, Int.reduceLE, Int.reduceEq, Int.reduceNe, Int.reduceBEq, Int.reduceBNe, Int.reduceToNat, Int.reduceGT, Int.reduceGE, ↓reduceIte, decide_true, decide_false, eq_self, Nat.mul_one, Nat.zero_mul, Nat.one_mul, Int.le_refl, Nat.le_refl, Int.cast_ofNat_Int]
            refine pwpC_loopU (A := Unit) [3, 4, 5] (fun _ => [(12, .t (.int .i64 0)), (10, .t (.bool false))]) (fun _ => []) (fun _ => 0) () (by decide) (fun _ => by rfl) ?_ fun Q2 hQ2 _ I2 hI2 => ?_
            · simp (decide := true) (maxSteps := 4000000) only [go_sem, Nat.reduceAdd, Nat.reduceSub, Nat.reduceMul, Nat.reduceDiv, Nat.reduceMod, Nat.reduceLT, Nat.reduceLeDiff, Nat.reduceEqDiff, Nat.reduceBEq, Nat.reduceBNe, Nat.reduceGT, Int.reduceAdd, Int.reduceSub, Int.reduceMul, Int.reduceNeg, Int.reduceLT, Int.reduceLE, Int.reduceEq, Int.reduceNe, Int.reduceBEq, Int.reduceBNe, Int.reduceToNat, Int.reduceGT, Int.reduceGE, ↓reduceIte, decide_true, decide_false, eq_self, Nat.mul_one, Nat.zero_mul, Nat.one_mul, Int.le_refl, Nat.le_refl, Int.cast_ofNat_Int]
            · simp (decide := true) (maxSteps := 4000000) only [go_sem, Nat.reduceAdd, Nat.reduceSub, Nat.reduceMul, Nat.reduceDiv, Nat.reduceMod, Nat.reduceLT, Nat.reduceLeDiff, Nat.reduceEqDiff, Nat.reduceBEq, Nat.reduceBNe, Nat.reduceGT, Int.reduceAdd, Int.reduceSub, Int.reduceMul, Int.reduceNeg, Int.reduceLT, Int.reduceLE, Int.reduceEq, Int.reduceNe, Int.reduceBEq, Int.reduceBNe, Int.reduceToNat, Int.reduceGT, Int.reduceGE, ↓reduceIte, decide_true, decide_false, eq_self, Nat.mul_one, Nat.zero_mul, Nat.one_mul, Int.le_refl, Nat.le_refl, Int.cast_ofNat_Int]
              refine hQ2 _ _ ?_
              simp (decide := true) (maxSteps := 4000000) only [go_sem, Nat.reduceAdd, Nat.reduceSub, Nat.reduceMul, Nat.reduceDiv, Nat.reduceMod, Nat.reduceLT, Nat.reduceLeDiff, Nat.reduceEqDiff, Nat.reduceBEq, Nat.reduceBNe, Nat.reduceGT, Int.reduceAdd, Int.reduceSub, Int.reduceMul, Int.reduceNeg, Int.reduceLT, Int.reduceLE, Int.reduceEq, Int.reduceNe, Int.reduceBEq, Int.reduceBNe, Int.reduceToNat, Int.reduceGT, Int.reduceGE, ↓reduceIte, decide_true, decide_false, eq_self, Nat.mul_one, Nat.zero_mul, Nat.one_mul, Int.le_refl, Nat.le_refl, Int.cast_ofNat_Int, hto]
end Go.Proofs.Ytcjcnmpecmbdeaa

/- Part Gi. -/
namespace Go.Oc
open Go Go.Pm
theorem rowL_is {α : Type} {un : List TV → Option (List α)} {c : α → List TV} (hu : ∀ l : List α, un (l.flatMap c) = some l) {s : TV} {l : List α} (h : IsRow c s l) : rowL un s = some l := by
  rcases h with ⟨rfl, rfl⟩ | ⟨full, rfl⟩
  · exact hu []
  · simp only [rowL, hu, if_true]
theorem rowB_is {s : TV} {l : List Blank} (h : IsRow Blank.cs s l) : rowL unBlanks s = some l := rowL_is unBlanks_eq h
theorem rowT_is {s : TV} {l : List Span} (h : IsRow Span.cs s l) : rowL unSpans s = some l := rowL_is unSpans_eq h
theorem rowI_is {s : TV} {l : List Int} (h : IsRow ic s l) : rowL unI s = some l := rowL_is (fun l => by rw [ic_ints]; exact unI_eq l) h
theorem rowF_is {s : TV} {l : List Fr} (h : IsRow Fr.cs s l) : rowL unFrs s = some l := rowL_is unFrs_eq h
end Go.Oc
namespace Go.Proofs.Ytcjcnmpecmbdeaa
open Go.RowKit Go.Pm Go.Oc
set_option maxRecDepth 100000
set_option linter.unusedVariables false
set_option maxHeartbeats 4000000

theorem rSpansE_ok : ∀ xs r, glSpansE xs = some r → PCalls Try.prog 21 xs r := by
  intro xs r h
  unfold glSpansE at h
  split at h
  · split at h
    · rename_i B T hB hT
      split at h
      · rename_i hc; cases h
        exact r4SpansE_c (rowL_some (un := unBlanks) rfl (@unBlanks_some) hB) (rowL_some (un := unSpans) rfl (@unSpans_some) hT) hc.1 hc.2 ⟨_, _, _, _, _⟩
      · cases h
    · cases h
  · cases h
theorem rGoodE_ok : ∀ xs r, glGoodE xs = some r → PCalls Try.prog 24 xs r := by
  intro xs r h
  unfold glGoodE at h
  split at h
  · split at h
    · rename_i B T hB hT
      split at h
      · rename_i hc; cases h
        exact r4GoodE_c (rowL_some (un := unBlanks) rfl (@unBlanks_some) hB) (rowL_some (un := unSpans) rfl (@unSpans_some) hT) hc.1 hc.2 ⟨⟨_, _⟩, _⟩ ⟨_, _, _, _, _⟩
      · cases h
    · cases h
  · cases h
theorem rSeen_ok : ∀ xs r, glSeen xs = some r → PCalls Try.prog 17 xs r := by
  intro xs r h
  unfold glSeen at h
  split at h
  · split at h
    · rename_i B T ix co cu hB hT hI hC hK
      split at h
      · rename_i hc; cases h
        exact r4Seen_c (rowL_some (un := unBlanks) rfl (@unBlanks_some) hB) (rowL_some (un := unSpans) rfl (@unSpans_some) hT) hc.1 hc.2 (rowL_some (un := unI) rfl (@unI_some) hI) (rowL_some (un := unI) rfl (@unI_some) hC) (rowL_some (un := unI) rfl (@unI_some) hK) ⟨_, _, _, _, _⟩
      · cases h
    · cases h
  · cases h
noncomputable def goWorks : List TV → Option TV
  | [] => some (.bool true)
  | _ => none
theorem goWorks_ok : ∀ xs r, goWorks xs = some r → PCalls Try.prog 22 xs r := by
  intro xs r h
  unfold goWorks at h
  split at h
  · cases h; exact oWorks_c
  · cases h
attribute [go_sem] goWorks
noncomputable def spI1 : Pm.Spec := ((((spH1.one 22 goWorks).one 19 glCheck).one 21 glSpansE).one 24 glGoodE).one 17 glSeen
@[go_sem] theorem spI1_p (f : FuncId) (xs : List TV) : spI1.p f xs = Pm.Spec.p (((((spH1.one 22 goWorks).one 19 glCheck).one 21 glSpansE).one 24 glGoodE).one 17 glSeen) f xs := rfl
@[go_sem] theorem spI1_h (f : FuncId) (ps : List PV) (hl : List PO) : spI1.h f ps hl = Pm.Spec.h (((((spH1.one 22 goWorks).one 19 glCheck).one 21 glSpansE).one 24 glGoodE).one 17 glSeen) f ps hl := rfl
@[go_sem] theorem spI1_fz (f : FuncId) : spI1.fz f = Pm.Spec.fz (((((spH1.one 22 goWorks).one 19 glCheck).one 21 glSpansE).one 24 glGoodE).one 17 glSeen) f := rfl
@[go_sem] theorem spI1_fr (f : FuncId) : spI1.fr f = Pm.Spec.fr (((((spH1.one 22 goWorks).one 19 glCheck).one 21 glSpansE).one 24 glGoodE).one 17 glSeen) f := rfl
@[go_sem] theorem spI1_mu (t : TypeId) : spI1.mu t = Pm.Spec.mu (((((spH1.one 22 goWorks).one 19 glCheck).one 21 glSpansE).one 24 glGoodE).one 17 glSeen) t := rfl
theorem spI1_ok : SpecOk Try.prog spI1 := Spec.one_ok rSeen_ok (Spec.one_ok rGoodE_ok (Spec.one_ok rSpansE_ok (Spec.one_ok r4Check_ok (Spec.one_ok goWorks_ok spH1_ok))))
theorem GlassSees_c {B : List Blank} {T : List Span} {sB sT sI sC sK : TV} {ix co cu : List Int} (hB : IsRow Blank.cs sB B) (hT : IsRow Span.cs sT T) (hlB : B.length ≤ 5864062014806) (hlT : T.length ≤ 9000000000000) (hI : IsRow ic sI ix) (hC : IsRow ic sC co) (hK : IsRow ic sK cu) (o : Ob) :
    PCalls Try.prog 3 [.agg [sB, sT], o.t, .agg [sI, sC, sK]] (.bool true) := by
  have rB := rowB_is hB
  have rT := rowT_is hT
  have rI := rowI_is hI
  have rC := rowI_is hC
  have rK := rowI_is hK
  unfold rowL at rB rT rI rC rK
  refine pcalls_by Try.mixes spI1_ok (fn := Try.f3) Try.func3 rfl (by kernel_rfl) (by show 3 ≤ _; decide) ?_
  simp (decide := true) (maxSteps := 4000000) only [go_sem, Nat.reduceAdd, Nat.reduceSub, Nat.reduceMul, Nat.reduceDiv, Nat.reduceMod, Nat.reduceLT, Nat.reduceLeDiff, Nat.reduceEqDiff, Nat.reduceBEq, Nat.reduceBNe, Nat.reduceGT, Int.reduceAdd, Int.reduceSub, Int.reduceMul, Int.reduceNeg, Int.reduceLT, Int.reduceLE, Int.reduceEq, Int.reduceNe, Int.reduceBEq, Int.reduceBNe, Int.reduceToNat, Int.reduceGT, Int.reduceGE, ↓reduceIte, decide_true, decide_false, eq_self, Nat.mul_one, Nat.zero_mul, Nat.one_mul, Int.le_refl, Nat.le_refl, Int.cast_ofNat_Int, Try.f3, Ob.t, Ob.cs, rB, rT, rI, rC, rK, hlB, hlT, Span.t, Span.cs, bne_self_eq_false, beq_self_eq_true, Bool.and_self]
end Go.Proofs.Ytcjcnmpecmbdeaa

/- Part Gd. -/
namespace Go.Proofs.Ytcjcnmpecmbdeaa
open Go.RowKit Go.Pm Go.Oc
set_option maxRecDepth 100000
set_option linter.unusedVariables false

theorem slice_cells {k : Nat} {t e : TypeId} {cs : List TV} (hu : Program.underlying Try.prog t = some (.slice e)) (h : cellsOk Try.prog (k + 1) t cs) : ∃ x, cs = [x] ∧ cellsOk Try.prog (k + 1) t [x] := by
  have h' := h
  unfold cellsOk at h'
  rw [hu] at h'
  rcases h' with h' | ⟨rows, full, h', _⟩
  · exact ⟨_, h', by rw [← h']; exact h⟩
  · exact ⟨_, h', by rw [← h']; exact h⟩
theorem int_cells {k : Nat} {cs : List TV} (h : cellsOk Try.prog (k + 1) 3 cs) : ∃ n, cs = [.int .i64 n] ∧ In64 n := cellsOk_i64 (by kernel_rfl) h
theorem span_cells {k : Nat} {cs : List TV} (h : cellsOk Try.prog (k + 2) 37 cs) : ∃ s : Span, cs = s.cs ∧ In64 s.lo ∧ In64 s.hi := by
  have h := cellsOk_tys (ts := [3, 3]) (by kernel_rfl) h
  obtain ⟨_, r, rfl, h1, h⟩ := seqOk_cons h
  obtain ⟨_, r, rfl, h2, h⟩ := seqOk_cons h
  cases seqOk_nil h
  obtain ⟨a, rfl, ha⟩ := int_cells h1
  obtain ⟨b, rfl, hb⟩ := int_cells h2
  exact ⟨⟨a, b⟩, rfl, ha, hb⟩
theorem blank_cells {k : Nat} {cs : List TV} (h : cellsOk Try.prog (k + 3) 87 cs) : ∃ b : Blank, cs = b.cs ∧ In64 b.i.lo ∧ In64 b.i.hi ∧ In64 b.c.lo ∧ In64 b.c.hi ∧ In64 b.pr := by
  have h := cellsOk_tys (ts := [37, 37, 3]) (by kernel_rfl) h
  obtain ⟨_, r, rfl, h1, h⟩ := seqOk_cons h
  obtain ⟨_, r, rfl, h2, h⟩ := seqOk_cons h
  obtain ⟨_, r, rfl, h3, h⟩ := seqOk_cons h
  cases seqOk_nil h
  obtain ⟨a, rfl, a1, a2⟩ := span_cells h1
  obtain ⟨b, rfl, b1, b2⟩ := span_cells h2
  obtain ⟨c, rfl, hc⟩ := int_cells h3
  exact ⟨⟨a, b, c⟩, rfl, a1, a2, b1, b2, hc⟩
theorem fr_cells {k : Nat} {cs : List TV} (h : cellsOk Try.prog (k + 3) 93 cs) : ∃ f : Fr, cs = f.cs ∧ In64 f.p.lo ∧ In64 f.p.hi ∧ In64 f.r.lo ∧ In64 f.r.hi ∧ In64 f.g := by
  have h := cellsOk_tys (ts := [37, 37, 3]) (by kernel_rfl) h
  obtain ⟨_, r, rfl, h1, h⟩ := seqOk_cons h
  obtain ⟨_, r, rfl, h2, h⟩ := seqOk_cons h
  obtain ⟨_, r, rfl, h3, h⟩ := seqOk_cons h
  cases seqOk_nil h
  obtain ⟨a, rfl, a1, a2⟩ := span_cells h1
  obtain ⟨b, rfl, b1, b2⟩ := span_cells h2
  obtain ⟨c, rfl, hc⟩ := int_cells h3
  exact ⟨⟨a, b, c⟩, rfl, a1, a2, b1, b2, hc⟩
theorem ints_cells {x : TV} {k : Nat} (h : cellsOk Try.prog (k + 2) 29 [x]) : ∃ l : List Int, IsRow ic x l ∧ l.length ≤ 17592186044415 ∧ ∀ n ∈ l, In64 n := by
  obtain ⟨l, h1, h2, h3, _⟩ := cellsOk_row (e := 3) (c := ic) (p := fun n => In64 n) (by kernel_rfl) (fun cs hc => int_cells hc) h
  rw [show Program.bytesOf Try.prog 3 = 8 by kernel_rfl] at h3
  unfold reachBytes at h3
  exact ⟨l, h1, by omega, h2⟩
theorem blanks_cells {x : TV} {k : Nat} (h : cellsOk Try.prog (k + 4) 22 [x]) : ∃ l : List Blank, IsRow Blank.cs x l ∧ l.length ≤ 5864062014805 ∧ ∀ b ∈ l, In64 b.i.lo ∧ In64 b.i.hi ∧ In64 b.c.lo ∧ In64 b.c.hi ∧ In64 b.pr := by
  obtain ⟨l, h1, h2, h3, _⟩ := cellsOk_row (e := 87) (c := Blank.cs) (by kernel_rfl) (fun cs hc => blank_cells hc) h
  rw [show Program.bytesOf Try.prog 87 = 40 by kernel_rfl] at h3
  unfold reachBytes at h3
  exact ⟨l, h1, by omega, h2⟩
theorem frs_cells {x : TV} {k : Nat} (h : cellsOk Try.prog (k + 4) 56 [x]) : ∃ l : List Fr, IsRow Fr.cs x l ∧ l.length ≤ 5864062014805 ∧ ∀ f ∈ l, In64 f.p.lo ∧ In64 f.p.hi ∧ In64 f.r.lo ∧ In64 f.r.hi ∧ In64 f.g := by
  obtain ⟨l, h1, h2, h3, _⟩ := cellsOk_row (e := 93) (c := Fr.cs) (by kernel_rfl) (fun cs hc => fr_cells hc) h
  rw [show Program.bytesOf Try.prog 93 = 40 by kernel_rfl] at h3
  unfold reachBytes at h3
  exact ⟨l, h1, by omega, h2⟩
theorem spans_cells {x : TV} {k : Nat} (h : cellsOk Try.prog (k + 3) 23 [x]) : ∃ l : List Span, IsRow Span.cs x l ∧ l.length ≤ 8796093022207 ∧ ∀ b ∈ l, In64 b.lo ∧ In64 b.hi := by
  obtain ⟨l, h1, h2, h3, _⟩ := cellsOk_row (e := 37) (c := Span.cs) (by kernel_rfl) (fun cs hc => span_cells hc) h
  rw [show Program.bytesOf Try.prog 37 = 16 by kernel_rfl] at h3
  unfold reachBytes at h3
  exact ⟨l, h1, by omega, h2⟩
theorem stockArg {x : TV} (h : argOk Try.prog 25 x) : ∃ (B : List Blank) (T : List Span) (sB sT : TV), x = .agg [sB, sT] ∧ IsRow Blank.cs sB B ∧ IsRow Span.cs sT T ∧ B.length ≤ 5864062014805 ∧ T.length ≤ 8796093022207 ∧
    (∀ b ∈ B, In64 b.i.lo ∧ In64 b.i.hi ∧ In64 b.c.lo ∧ In64 b.c.hi ∧ In64 b.pr) ∧ ∀ t ∈ T, In64 t.lo ∧ In64 t.hi := by
  obtain ⟨cs, rfl, h'⟩ := argOk_agg (ts := [22, 23]) (by kernel_rfl) h
  have h := cellsOk_tys (ts := [22, 23]) (by kernel_rfl) h'
  obtain ⟨_, r, rfl, h1, h⟩ := seqOk_cons h
  obtain ⟨_, r, rfl, h2, h⟩ := seqOk_cons h
  cases seqOk_nil h
  obtain ⟨a, rfl, h1⟩ := slice_cells (e := 87) (by kernel_rfl) h1
  obtain ⟨b, rfl, h2⟩ := slice_cells (e := 37) (by kernel_rfl) h2
  obtain ⟨B, hB, lB, iB⟩ := blanks_cells h1
  obtain ⟨T, hT, lT, iT⟩ := spans_cells h2
  exact ⟨B, T, a, b, rfl, hB, hT, lB, lT, iB, iT⟩
theorem obArg {x : TV} (h : argOk Try.prog 28 x) : ∃ o : Ob, x = o.t ∧ In64 o.f ∧ In64 o.s ∧ In64 o.a ∧ In64 o.b ∧ In64 o.c := by
  obtain ⟨cs, rfl, h'⟩ := argOk_agg (ts := [3, 3, 26]) (by kernel_rfl) h
  have h := cellsOk_tys (ts := [3, 3, 26]) (by kernel_rfl) h'
  obtain ⟨_, r, rfl, h1, h⟩ := seqOk_cons h
  obtain ⟨_, r, rfl, h2, h⟩ := seqOk_cons h
  obtain ⟨_, r, rfl, h3, h⟩ := seqOk_cons h
  cases seqOk_nil h
  obtain ⟨a, rfl, ia⟩ := int_cells h1
  obtain ⟨b, rfl, ib⟩ := int_cells h2
  have h := cellsOk_tys (ts := [3, 3, 3]) (by kernel_rfl) h3
  obtain ⟨_, r, rfl, h4, h⟩ := seqOk_cons h
  obtain ⟨_, r, rfl, h5, h⟩ := seqOk_cons h
  obtain ⟨_, r, rfl, h6, h⟩ := seqOk_cons h
  cases seqOk_nil h
  obtain ⟨c, rfl, ic⟩ := int_cells h4
  obtain ⟨d, rfl, id⟩ := int_cells h5
  obtain ⟨e, rfl, ie⟩ := int_cells h6
  exact ⟨⟨a, b, c, d, e⟩, rfl, ia, ib, ic, id, ie⟩
theorem truthArg {x : TV} (h : argOk Try.prog 31 x) : ∃ (ix co cu : List Int) (a b c : TV), x = .agg [a, b, c] ∧ IsRow ic a ix ∧ IsRow ic b co ∧ IsRow ic c cu ∧ ix.length ≤ 17592186044415 ∧ co.length ≤ 17592186044415 ∧ cu.length ≤ 17592186044415 := by
  obtain ⟨cs, rfl, h'⟩ := argOk_agg (ts := [29, 29, 29]) (by kernel_rfl) h
  have h := cellsOk_tys (ts := [29, 29, 29]) (by kernel_rfl) h'
  obtain ⟨_, r, rfl, h1, h⟩ := seqOk_cons h
  obtain ⟨_, r, rfl, h2, h⟩ := seqOk_cons h
  obtain ⟨_, r, rfl, h3, h⟩ := seqOk_cons h
  cases seqOk_nil h
  obtain ⟨a, rfl, h1⟩ := slice_cells (e := 3) (by kernel_rfl) h1
  obtain ⟨b, rfl, h2⟩ := slice_cells (e := 3) (by kernel_rfl) h2
  obtain ⟨c, rfl, h3⟩ := slice_cells (e := 3) (by kernel_rfl) h3
  obtain ⟨ix, r1, l1, _⟩ := ints_cells h1
  obtain ⟨co, r2, l2, _⟩ := ints_cells h2
  obtain ⟨cu, r3, l3, _⟩ := ints_cells h3
  exact ⟨ix, co, cu, a, b, c, rfl, r1, r2, r3, l1, l2, l3⟩
theorem wantArg {x : TV} (h : argOk Try.prog 43 x) : ∃ w : Want, x = w.t ∧ In64 w.p.lo ∧ In64 w.p.hi ∧ In64 w.c := by
  obtain ⟨cs, rfl, h'⟩ := argOk_agg (ts := [37, 3]) (by kernel_rfl) h
  have h := cellsOk_tys (ts := [37, 3]) (by kernel_rfl) h'
  obtain ⟨_, r, rfl, h1, h⟩ := seqOk_cons h
  obtain ⟨_, r, rfl, h2, h⟩ := seqOk_cons h
  cases seqOk_nil h
  obtain ⟨a, rfl, a1, a2⟩ := span_cells h1
  obtain ⟨b, rfl, ib⟩ := int_cells h2
  exact ⟨⟨a, b⟩, rfl, a1, a2, ib⟩
theorem intsArg {x : TV} (h : argOk Try.prog 29 x) : ∃ l : List Int, IsRow ic x l ∧ l.length ≤ 17592186044415 ∧ ∀ n ∈ l, In64 n := ints_cells (argOk_sl (e := 3) (by kernel_rfl) h)
theorem frsArg {x : TV} (h : argOk Try.prog 56 x) : ∃ l : List Fr, IsRow Fr.cs x l ∧ l.length ≤ 5864062014805 ∧ ∀ f ∈ l, In64 f.p.lo ∧ In64 f.p.hi ∧ In64 f.r.lo ∧ In64 f.r.hi ∧ In64 f.g := frs_cells (argOk_sl (e := 93) (by kernel_rfl) h)
theorem twoArg {x : TV} (h : argOk Try.prog 91 x) : ∃ a b, x = .agg [.int .i64 a, .int .i64 b] ∧ In64 a ∧ In64 b := by
  obtain ⟨cs, rfl, h'⟩ := argOk_agg (ts := [3, 3]) (by kernel_rfl) h
  have h := cellsOk_tys (ts := [3, 3]) (by kernel_rfl) h'
  obtain ⟨_, r, rfl, h1, h⟩ := seqOk_cons h
  obtain ⟨_, r, rfl, h2, h⟩ := seqOk_cons h
  cases seqOk_nil h
  obtain ⟨a, rfl, ia⟩ := int_cells h1
  obtain ⟨b, rfl, ib⟩ := int_cells h2
  exact ⟨a, b, rfl, ia, ib⟩
end Go.Proofs.Ytcjcnmpecmbdeaa

/- Part Gna. -/
namespace Go.Oc
open Go Go.Pm
def updI (g : Int → Int) (t v : Int) : Int → Int := fun i => if i = t then v else g i
theorem updI_same (g : Int → Int) (t v : Int) : updI g t v t = v := by unfold updI; rw [if_pos rfl]
/-- What both lenses do is affine in the curvature of a tool. -/
theorem pw_upd (n1 n2 : Int) (o : Ob) (g : Int → Int) (t : Int) : ∃ A : Int, ∀ v, pw n1 n2 (updI g t v o.a) (updI g t v o.b) (updI g t v o.c) - pw n1 n2 (g o.a) (g o.b) (g o.c) = A * v - A * g t := by
  refine ⟨(if o.a = t then n1 else 0) + (if o.b = t then n2 - n1 else 0) - (if o.c = t then n2 else 0), fun v => ?_⟩
  unfold pw updI
  by_cases h1 : o.a = t <;> by_cases h2 : o.b = t <;> by_cases h3 : o.c = t <;> simp only [h1, h2, h3, if_true, if_false, Int.mul_sub, Int.sub_mul, Int.add_mul, Int.zero_mul] <;> omega
theorem pw_low (n1 n2 : Int) {T : List Span} (o : Ob) (g : Int → Int) (t : Int) (h : (toolAt T t).lo ≤ g t ∧ g t ≤ (toolAt T t).hi) :
    (∃ b, pw n1 n2 (updI g t (endS (toolAt T t) b) o.a) (updI g t (endS (toolAt T t) b) o.b) (updI g t (endS (toolAt T t) b) o.c) ≤ pw n1 n2 (g o.a) (g o.b) (g o.c)) ∧
    ∃ b, pw n1 n2 (g o.a) (g o.b) (g o.c) ≤ pw n1 n2 (updI g t (endS (toolAt T t) b) o.a) (updI g t (endS (toolAt T t) b) o.b) (updI g t (endS (toolAt T t) b) o.c) := by
  obtain ⟨A, hA⟩ := pw_upd n1 n2 o g t
  obtain ⟨⟨b, hb⟩, c, hc⟩ := affine_ends (A := A) h
  exact ⟨⟨b, by have := hA (endS (toolAt T t) b); omega⟩, c, by have := hA (endS (toolAt T t) c); omega⟩
theorem pw_n1 {s : Span} {n1 n2 x y z : Int} (h : s.lo ≤ n1 ∧ n1 ≤ s.hi) : (∃ b, pw (endS s b) n2 x y z ≤ pw n1 n2 x y z) ∧ ∃ b, pw n1 n2 x y z ≤ pw (endS s b) n2 x y z := by
  obtain ⟨⟨b, hb⟩, c, hc⟩ := affine_ends (A := x - y) h
  unfold pw
  rw [Int.mul_comm n1]
  refine ⟨⟨b, ?_⟩, c, ?_⟩
  · rw [Int.mul_comm (endS s b)]; omega
  · rw [Int.mul_comm (endS s c)]; omega
theorem pw_n2 {s : Span} {n1 n2 x y z : Int} (h : s.lo ≤ n2 ∧ n2 ≤ s.hi) : (∃ b, pw n1 (endS s b) x y z ≤ pw n1 n2 x y z) ∧ ∃ b, pw n1 n2 x y z ≤ pw n1 (endS s b) x y z := by
  obtain ⟨⟨b, hb⟩, c, hc⟩ := affine_ends (A := y - z) h
  unfold pw
  rw [Int.mul_comm n2]
  refine ⟨⟨b, ?_⟩, c, ?_⟩
  · rw [Int.mul_comm (endS s b)]; omega
  · rw [Int.mul_comm (endS s c)]; omega
/-- The curvatures of three tools at ends, one after the other. -/
theorem ends3 (T : List Span) (o : Ob) (g : Int → Int) (b1 b2 b3 : Bool) (s1 s2 : Span) (hi hj : Bool) :
    pw (endS s1 hi) (endS s2 hj) (updI (updI (updI g o.a (endS (toolAt T o.a) b1)) o.b (endS (toolAt T o.b) b2)) o.c (endS (toolAt T o.c) b3) o.a) (updI (updI (updI g o.a (endS (toolAt T o.a) b1)) o.b (endS (toolAt T o.b) b2)) o.c (endS (toolAt T o.c) b3) o.b) (updI (updI (updI g o.a (endS (toolAt T o.a) b1)) o.b (endS (toolAt T o.b) b2)) o.c (endS (toolAt T o.c) b3) o.c) =
    endV s1 s2 T o hi hj (fun t => if t = o.c then b3 else if t = o.b then b2 else b1) := by
  unfold endV updI
  by_cases h1 : o.a = o.c <;> by_cases h2 : o.b = o.c <;> by_cases h3 : o.a = o.b <;> simp only [h1, h2, h3, if_true, if_false]
theorem pw_between {s1 s2 : Span} {T : List Span} {o : Ob} {n1 n2 : Int} {g : Int → Int} (h1 : s1.lo ≤ n1 ∧ n1 ≤ s1.hi) (h2 : s2.lo ≤ n2 ∧ n2 ≤ s2.hi)
    (ha : (toolAt T o.a).lo ≤ g o.a ∧ g o.a ≤ (toolAt T o.a).hi) (hb : (toolAt T o.b).lo ≤ g o.b ∧ g o.b ≤ (toolAt T o.b).hi) (hc : (toolAt T o.c).lo ≤ g o.c ∧ g o.c ≤ (toolAt T o.c).hi) :
    (minmax (corners s1 s2 (toolAt T o.a) (toolAt T o.b) (toolAt T o.c) o 32)).lo ≤ pw n1 n2 (g o.a) (g o.b) (g o.c) ∧ pw n1 n2 (g o.a) (g o.b) (g o.c) ≤ (minmax (corners s1 s2 (toolAt T o.a) (toolAt T o.b) (toolAt T o.c) o 32)).hi := by
  have hu : ∀ (g : Int → Int) (t u : Int) (b : Bool), ((toolAt T u).lo ≤ g u ∧ g u ≤ (toolAt T u).hi) → ((toolAt T t).lo ≤ g t ∧ g t ≤ (toolAt T t).hi) → (toolAt T u).lo ≤ updI g t (endS (toolAt T t) b) u ∧ updI g t (endS (toolAt T t) b) u ≤ (toolAt T u).hi := by
    intro g t u b hu ht
    unfold updI
    split
    · rename_i h; subst h; exact endS_mem (by omega) b
    · exact hu
  constructor
  · obtain ⟨bi, l1⟩ := (pw_n1 (n2 := n2) (x := g o.a) (y := g o.b) (z := g o.c) h1).1
    obtain ⟨bj, l2⟩ := (pw_n2 (n1 := endS s1 bi) (x := g o.a) (y := g o.b) (z := g o.c) h2).1
    obtain ⟨b1, l3⟩ := (pw_low (endS s1 bi) (endS s2 bj) o g o.a ha).1
    have hb' := hu g o.a o.b b1 hb ha
    have hc' := hu g o.a o.c b1 hc ha
    obtain ⟨b2, l4⟩ := (pw_low (endS s1 bi) (endS s2 bj) o _ o.b hb').1
    have hc'' := hu _ o.b o.c b2 hc' hb'
    obtain ⟨b3, l5⟩ := (pw_low (endS s1 bi) (endS s2 bj) o _ o.c hc'').1
    rw [ends3] at l5
    refine Int.le_trans ?_ (Int.le_trans l5 (Int.le_trans l4 (Int.le_trans l3 (Int.le_trans l2 l1))))
    exact (minmax_le ((corner_iff s1 s2 T o _).2 ⟨bi, bj, _, rfl⟩)).1
  · obtain ⟨bi, l1⟩ := (pw_n1 (n2 := n2) (x := g o.a) (y := g o.b) (z := g o.c) h1).2
    obtain ⟨bj, l2⟩ := (pw_n2 (n1 := endS s1 bi) (x := g o.a) (y := g o.b) (z := g o.c) h2).2
    obtain ⟨b1, l3⟩ := (pw_low (endS s1 bi) (endS s2 bj) o g o.a ha).2
    have hb' := hu g o.a o.b b1 hb ha
    have hc' := hu g o.a o.c b1 hc ha
    obtain ⟨b2, l4⟩ := (pw_low (endS s1 bi) (endS s2 bj) o _ o.b hb').2
    have hc'' := hu _ o.b o.c b2 hc' hb'
    obtain ⟨b3, l5⟩ := (pw_low (endS s1 bi) (endS s2 bj) o _ o.c hc'').2
    rw [ends3] at l5
    refine Int.le_trans l1 (Int.le_trans l2 (Int.le_trans l3 (Int.le_trans l4 (Int.le_trans l5 ?_))))
    exact (minmax_le ((corner_iff s1 s2 T o _).2 ⟨bi, bj, _, rfl⟩)).2
/-- What is seen of an objective in a truth lies in its spans. -/
theorem seen_in {B : List Blank} {T : List Span} {o : Ob} (ho : obOk B.length T.length o = true) {ix co cu : List Int} (ht : truthOk B T ix co cu = true) :
    ((spansP B T o).p.lo ≤ pw (nth ix o.f) (nth ix o.s) (nth cu o.a) (nth cu o.b) (nth cu o.c) ∧ pw (nth ix o.f) (nth ix o.s) (nth cu o.a) (nth cu o.b) (nth cu o.c) ≤ (spansP B T o).p.hi) ∧
    (spansP B T o).c.lo ≤ pw (nth co o.f) (nth co o.s) (nth cu o.a) (nth cu o.b) (nth cu o.c) ∧ pw (nth co o.f) (nth co o.s) (nth cu o.a) (nth cu o.b) (nth cu o.c) ≤ (spansP B T o).c.hi := by
  have ho' := obOk_iff.1 ho
  unfold truthOk at ht
  simp only [Bool.and_eq_true] at ht
  have tB : ∀ i : Int, 0 ≤ i → i ≤ (B.length : Int) - 1 → ((blankAt B i).i.lo ≤ nth ix i ∧ nth ix i ≤ (blankAt B i).i.hi) ∧ (blankAt B i).c.lo ≤ nth co i ∧ nth co i ≤ (blankAt B i).c.hi := by
    intro i h0 h1
    obtain ⟨k, rfl⟩ := Int.eq_ofNat_of_zero_le h0
    exact tOkB_at ht.2.1 (by omega)
  have tT : ∀ i : Int, 0 ≤ i → i ≤ (T.length : Int) - 1 → (toolAt T i).lo ≤ nth cu i ∧ nth cu i ≤ (toolAt T i).hi := by
    intro i h0 h1
    obtain ⟨k, rfl⟩ := Int.eq_ofNat_of_zero_le h0
    exact tOkT_at ht.2.2 (by omega)
  have f := tB o.f ho'.1.1 ho'.1.2
  have s := tB o.s ho'.2.1.1 ho'.2.1.2
  have a := tT o.a ho'.2.2.2.1.1 ho'.2.2.2.1.2
  have b := tT o.b ho'.2.2.2.2.1.1 ho'.2.2.2.2.1.2
  have c := tT o.c ho'.2.2.2.2.2.1 ho'.2.2.2.2.2.2
  exact ⟨pw_between f.1 s.1 a b c, pw_between f.2 s.2 a b c⟩

/-- The element of a list that a number chooses. -/
def pickI (l : List Int) (n : Int) : Int := if l.length = 0 then 0 else nth l (n % l.length)
/-- A truth of a stock, as numbers choose it. -/
def chIx (B : List Blank) (bits : List Int) (k : Nat) : List Int := (List.range k).map fun (i : Nat) => chosen (blankAt B i).i.lo (blankAt B i).i.hi (pickI bits (2 * i))
def chCo (B : List Blank) (bits : List Int) (k : Nat) : List Int := (List.range k).map fun (i : Nat) => chosen (blankAt B i).c.lo (blankAt B i).c.hi (pickI bits (2 * i + 1))
def chCu (T : List Span) (bits : List Int) (k : Nat) : List Int := (List.range k).map fun (i : Nat) => chosen (toolAt T i).lo (toolAt T i).hi (pickI bits (i + 5))
theorem chIx_succ (B : List Blank) (bits : List Int) (k : Nat) : chIx B bits (k + 1) = chIx B bits k ++ [chosen (blankAt B k).i.lo (blankAt B k).i.hi (pickI bits (2 * k))] := by unfold chIx; rw [List.range_succ, List.map_append]; rfl
theorem chCo_succ (B : List Blank) (bits : List Int) (k : Nat) : chCo B bits (k + 1) = chCo B bits k ++ [chosen (blankAt B k).c.lo (blankAt B k).c.hi (pickI bits (2 * k + 1))] := by unfold chCo; rw [List.range_succ, List.map_append]; rfl
theorem chCu_succ (T : List Span) (bits : List Int) (k : Nat) : chCu T bits (k + 1) = chCu T bits k ++ [chosen (toolAt T k).lo (toolAt T k).hi (pickI bits (k + 5))] := by unfold chCu; rw [List.range_succ, List.map_append]; rfl
theorem chIx_len (B : List Blank) (bits : List Int) (k : Nat) : (chIx B bits k).length = k := by simp [chIx]
theorem chCo_len (B : List Blank) (bits : List Int) (k : Nat) : (chCo B bits k).length = k := by simp [chCo]
theorem chCu_len (T : List Span) (bits : List Int) (k : Nat) : (chCu T bits k).length = k := by simp [chCu]
theorem nth_mapN {n : Nat} {f : Nat → Int} {i : Nat} (h1 : i < n) : nth ((List.range n).map f) (i : Int) = f i := by
  refine nth_eq ?_
  rw [List.getElem?_map, List.getElem?_range h1]; rfl
theorem chosen_truth {B : List Blank} {T : List Span} (hs : stockOk B T = true) (bits : List Int) : truthOk B T (chIx B bits B.length) (chCo B bits B.length) (chCu T bits T.length) = true := by
  unfold truthOk tOkB tOkT
  rw [chIx_len, chCo_len, chCu_len]
  simp only [beq_self_eq_true, Bool.and_self, Bool.true_and, Bool.and_eq_true, List.all_eq_true, List.mem_range, inB_iff]
  refine ⟨fun i hi => ?_, fun i hi => ?_⟩
  · have := blank_ok hs (i := i) (by omega) (by omega)
    unfold chIx chCo
    rw [nth_mapN hi, nth_mapN hi]
    exact ⟨chosen_mem _ this.1.2.1, chosen_mem _ this.2.1.2.1⟩
  · have := tool_ok hs (i := i) (by omega) (by omega)
    unfold chCu
    rw [nth_mapN hi]
    exact chosen_mem _ this.2.1

/-- An objective that is turned round. -/
def turnO (o : Ob) : Ob := ⟨o.s, o.f, o.c, o.b, o.a⟩
theorem turn_ok {n m : Int} (o : Ob) : obOk n m (turnO o) = obOk n m o := by
  rw [Bool.eq_iff_iff, obOk_iff, obOk_iff]
  unfold turnO
  simp only
  constructor <;> (rintro ⟨a, b, c, d, e, f⟩; exact ⟨b, a, fun h => c h.symm, f, e, d⟩)
theorem pw_turn (n1 n2 x y z : Int) : pw n2 n1 z y x = -pw n1 n2 x y z := by
  unfold pw
  simp only [Int.mul_sub]; omega
theorem corner_turn (s1 s2 : Span) (T : List Span) (o : Ob) : minmax (corners s2 s1 (toolAt T (turnO o).a) (toolAt T (turnO o).b) (toolAt T (turnO o).c) (turnO o) 32) = ⟨-(minmax (corners s1 s2 (toolAt T o.a) (toolAt T o.b) (toolAt T o.c) o 32)).hi, -(minmax (corners s1 s2 (toolAt T o.a) (toolAt T o.b) (toolAt T o.c) o 32)).lo⟩ := by
  have hv : ∀ hi hj g, endV s2 s1 T (turnO o) hj hi g = -endV s1 s2 T o hi hj g := fun hi hj g => pw_turn ..
  have n1 := corners_ne s1 s2 (toolAt T o.a) (toolAt T o.b) (toolAt T o.c) o
  have n2 := corners_ne s2 s1 (toolAt T (turnO o).a) (toolAt T (turnO o).b) (toolAt T (turnO o).c) (turnO o)
  obtain ⟨a1, a2⟩ := minmax_mem n1
  obtain ⟨b1, b2⟩ := minmax_mem n2
  have key1 : ∀ v, v ∈ corners s1 s2 (toolAt T o.a) (toolAt T o.b) (toolAt T o.c) o 32 → -v ∈ corners s2 s1 (toolAt T (turnO o).a) (toolAt T (turnO o).b) (toolAt T (turnO o).c) (turnO o) 32 := by
    intro v h
    obtain ⟨hi, hj, g, rfl⟩ := (corner_iff ..).1 h
    exact (corner_iff ..).2 ⟨hj, hi, g, (hv hi hj g).symm⟩
  have key2 : ∀ v, v ∈ corners s2 s1 (toolAt T (turnO o).a) (toolAt T (turnO o).b) (toolAt T (turnO o).c) (turnO o) 32 → -v ∈ corners s1 s2 (toolAt T o.a) (toolAt T o.b) (toolAt T o.c) o 32 := by
    intro v h
    obtain ⟨hi, hj, g, rfl⟩ := (corner_iff ..).1 h
    exact (corner_iff ..).2 ⟨hj, hi, g, by rw [hv hj hi g]; omega⟩
  have c1 := minmax_le (key1 _ a1)
  have c2 := minmax_le (key1 _ a2)
  have d1 := minmax_le (key2 _ b1)
  have d2 := minmax_le (key2 _ b2)
  generalize minmax (corners s1 s2 (toolAt T o.a) (toolAt T o.b) (toolAt T o.c) o 32) = X at c1 c2 d1 d2 ⊢
  generalize minmax (corners s2 s1 (toolAt T (turnO o).a) (toolAt T (turnO o).b) (toolAt T (turnO o).c) (turnO o) 32) = Y at c1 c2 d1 d2 ⊢
  obtain ⟨y1, y2⟩ := Y
  simp only at c1 c2 d1 d2 ⊢
  rw [show y1 = -X.hi by omega, show y2 = -X.lo by omega]
theorem spans_turn (B : List Blank) (T : List Span) (o : Ob) : spansP B T (turnO o) = ⟨⟨-(spansP B T o).p.hi, -(spansP B T o).p.lo⟩, ⟨-(spansP B T o).c.hi, -(spansP B T o).c.lo⟩⟩ := by
  unfold spansP
  rw [show (turnO o).f = o.s from rfl, show (turnO o).s = o.f from rfl, corner_turn, corner_turn]
theorem corner_thrice (s1 s2 : Span) (T : List Span) (f s t : Int) : minmax (corners s1 s2 (toolAt T t) (toolAt T t) (toolAt T t) ⟨f, s, t, t, t⟩ 32) = ⟨0, 0⟩ := by
  obtain ⟨a1, a2⟩ := minmax_mem (corners_ne s1 s2 (toolAt T t) (toolAt T t) (toolAt T t) ⟨f, s, t, t, t⟩)
  have key : ∀ v, v ∈ corners s1 s2 (toolAt T t) (toolAt T t) (toolAt T t) ⟨f, s, t, t, t⟩ 32 → v = 0 := by
    intro v h
    obtain ⟨hi, hj, g, rfl⟩ := (corner_iff s1 s2 T ⟨f, s, t, t, t⟩ v).1 h
    unfold endV pw
    simp
  have e1 := key _ a1
  have e2 := key _ a2
  generalize minmax (corners s1 s2 (toolAt T t) (toolAt T t) (toolAt T t) ⟨f, s, t, t, t⟩ 32) = X at e1 e2 ⊢
  obtain ⟨x, y⟩ := X
  simp only at e1 e2
  rw [e1, e2]
theorem spans_thrice (B : List Blank) (T : List Span) (f s t : Int) : spansP B T ⟨f, s, t, t, t⟩ = ⟨⟨0, 0⟩, ⟨0, 0⟩⟩ := by
  unfold spansP
  simp only
  rw [corner_thrice, corner_thrice]
end Go.Oc

/- Part Gnb. -/
namespace Go.Proofs.Ytcjcnmpecmbdeaa
open Go.RowKit Go.Pm Go.Oc
set_option maxRecDepth 100000
set_option linter.unusedVariables false
set_option maxHeartbeats 4000000

theorem Pick_c {l : List Int} {s : TV} (hs : IsRow ic s l) (hl : l.length ≤ 9223372036854775806) (n : Int) : PCalls Try.prog 43 [s, .int .i64 n] (.int .i64 (pickI l n)) := by
  have hI := rowI_is hs
  refine pcalls_by Try.mixes spB1_ok (fn := Try.f43) Try.func43 rfl (by kernel_rfl) (by show 2 ≤ _; decide) ?_
  unfold pickI
  by_cases h0 : l.length = 0
  · have h0' : ((l.length : Int) == 0) = true := beq_int_t (by omega)
    rcases hs with ⟨rfl, rfl⟩ | ⟨full, rfl⟩ <;> simp (decide := true) (maxSteps := 4000000) only [go_sem, Nat.reduceAdd, Nat.reduceSub, Nat.reduceMul, Nat.reduceDiv, Nat.reduceMod, Nat.reduceLT, Nat.reduceLeDiff, Nat.reduceEqDiff, Nat.reduceBEq, Nat.reduceBNe, Nat.reduceGT, Int.reduceAdd, Int.reduceSub, Int.reduceMul, Int.reduceNeg, Int.reduceLT, Int.reduceLE, Int.reduceEq, Int.reduceNe, Int.reduceBEq, Int.reduceBNe, Int.reduceToNat, Int.reduceGT, Int.reduceGE, ↓reduceIte, decide_true, decide_false, eq_self, Nat.mul_one, Nat.zero_mul, Nat.one_mul, Int.le_refl, Nat.le_refl, Int.cast_ofNat_Int, Try.f43, h0, h0', List.length_nil]
  · have h0' : ((l.length : Int) == 0) = false := beq_int_f (by omega)
    obtain ⟨full, rfl⟩ := hs.ne (by omega)
    have hc : 0 < (l.length : Int) ∧ (l.length : Int) ≤ 9223372036854775807 := by omega
    have m1 := Int.emod_nonneg n (show (l.length : Int) ≠ 0 by omega)
    have m2 := Int.emod_lt_of_pos n (show 0 < (l.length : Int) by omega)
    obtain ⟨k, hk⟩ := Int.eq_ofNat_of_zero_le m1
    rw [hk] at m2
    obtain ⟨x, hx⟩ := get_lt m2
    have d := flat_at ic (n := 1) (fun _ => rfl) hx
    rw [Nat.mul_one] at d
    simp (decide := true) (maxSteps := 4000000) only [go_sem, Nat.reduceAdd, Nat.reduceSub, Nat.reduceMul, Nat.reduceDiv, Nat.reduceMod, Nat.reduceLT, Nat.reduceLeDiff, Nat.reduceEqDiff, Nat.reduceBEq, Nat.reduceBNe, Nat.reduceGT, Int.reduceAdd, Int.reduceSub, Int.reduceMul, Int.reduceNeg, Int.reduceLT, Int.reduceLE, Int.reduceEq, Int.reduceNe, Int.reduceBEq, Int.reduceBNe, Int.reduceToNat, Int.reduceGT, Int.reduceGE, ↓reduceIte, decide_true, decide_false, eq_self, Nat.mul_one, Nat.zero_mul, Nat.one_mul, Int.le_refl, Nat.le_refl, Int.cast_ofNat_Int, Try.f43, h0, h0', hc, hk, m2, d, ic, Int.toNat_natCast, nth_eq hx]
noncomputable def gPick : List TV → Option TV
  | [s, .int .i64 n] => match rowL unI s with
    | some l => if l.length ≤ 9223372036854775806 then some (.int .i64 (pickI l n)) else none
    | none => none
  | _ => none
theorem gPick_ok : ∀ xs r, gPick xs = some r → PCalls Try.prog 43 xs r := by
  intro xs r h
  unfold gPick at h
  split at h
  · split at h
    · rename_i l hl
      split at h
      · rename_i hc; cases h
        exact Pick_c (rowL_some (un := unI) rfl (@unI_some) hl) hc _
      · cases h
    · cases h
  · cases h
attribute [go_sem] gPick
noncomputable def spN1 : Pm.Spec := spI1.one 43 gPick
@[go_sem] theorem spN1_p (f : FuncId) (xs : List TV) : spN1.p f xs = Pm.Spec.p (spI1.one 43 gPick) f xs := rfl
@[go_sem] theorem spN1_h (f : FuncId) (ps : List PV) (hl : List PO) : spN1.h f ps hl = Pm.Spec.h (spI1.one 43 gPick) f ps hl := rfl
@[go_sem] theorem spN1_fz (f : FuncId) : spN1.fz f = Pm.Spec.fz (spI1.one 43 gPick) f := rfl
@[go_sem] theorem spN1_fr (f : FuncId) : spN1.fr f = Pm.Spec.fr (spI1.one 43 gPick) f := rfl
@[go_sem] theorem spN1_mu (t : TypeId) : spN1.mu t = Pm.Spec.mu (spI1.one 43 gPick) t := rfl
theorem spN1_ok : SpecOk Try.prog spN1 := Spec.one_ok gPick_ok spI1_ok
theorem oChosen_c {B : List Blank} {T : List Span} (fB fT : Bool) (hs : stockOk B T = true) {bits : List Int} {s : TV} (hb : IsRow ic s bits) (hlb : bits.length ≤ 9223372036854775806) : PCalls Try.prog 33 [.agg [.sl (B.flatMap Blank.cs) B.length fB, .sl (T.flatMap Span.cs) T.length fT], s]
    (.agg [.sl (ints (chIx B bits B.length)) B.length false, .sl (ints (chCo B bits B.length)) B.length false, .sl (ints (chCu T bits T.length)) T.length false]) := by
  have hs' := stockOk_iff.1 hs
  have rI := rowI_is hb
  unfold rowL at rI
  refine pcalls_by Try.mixes spN1_ok (fn := Try.f33) Try.func33 rfl (by kernel_rfl) (by show 2 ≤ _; decide) ?_
  simp (decide := true) (maxSteps := 4000000) only [go_sem, Nat.reduceAdd, Nat.reduceSub, Nat.reduceMul, Nat.reduceDiv, Nat.reduceMod, Nat.reduceLT, Nat.reduceLeDiff, Nat.reduceEqDiff, Nat.reduceBEq, Nat.reduceBNe, Nat.reduceGT, Int.reduceAdd, Int.reduceSub, Int.reduceMul, Int.reduceNeg, Int.reduceLT, Int.reduceLE, Int.reduceEq, Int.reduceNe, Int.reduceBEq, Int.reduceBNe, Int.reduceToNat, Int.reduceGT, Int.reduceGE, ↓reduceIte, decide_true, decide_false, eq_self, Nat.mul_one, Nat.zero_mul, Nat.one_mul, Int.le_refl, Nat.le_refl, Int.cast_ofNat_Int, Try.f33]
  refine pwpC_loopU (A := { k : Nat // k ≤ B.length }) [1, 2, 4, 5] (fun k => [(6, .t (.int .i64 k.1))]) (fun k => [(2, .box [.own (ints (chIx B bits k.1)) k.1 3, .own (ints (chCo B bits k.1)) k.1 4, .t .nilSl]), (3, .tok k.1 3), (4, .tok k.1 3)]) (fun k => B.length - k.1) ⟨0, by omega⟩ (by decide) (fun _ => by rfl) ?_ fun Q1 hQ1 ⟨k, hk⟩ I1 hI1 => ?_
  · simp (decide := true) (maxSteps := 4000000) only [go_sem, Nat.reduceAdd, Nat.reduceSub, Nat.reduceMul, Nat.reduceDiv, Nat.reduceMod, Nat.reduceLT, Nat.reduceLeDiff, Nat.reduceEqDiff, Nat.reduceBEq, Nat.reduceBNe, Nat.reduceGT, Int.reduceAdd, Int.reduceSub, Int.reduceMul, Int.reduceNeg, Int.reduceLT, Int.reduceLE, Int.reduceEq, Int.reduceNe, Int.reduceBEq, Int.reduceBNe, Int.reduceToNat, Int.reduceGT, Int.reduceGE, ↓reduceIte, decide_true, decide_false, eq_self, Nat.mul_one, Nat.zero_mul, Nat.one_mul, Int.le_refl, Nat.le_refl, Int.cast_ofNat_Int, chIx, chCo, List.range_zero, List.map_nil, ints]
    first | done | exact ⟨rfl, rfl⟩
  · by_cases hlt : (k : Int) < B.length
    · obtain ⟨x, hx⟩ := get_lt hlt
      have hd := flat_at Blank.cs (n := 5) (fun _ => rfl) hx
      have hc1 : IntKind.i64.wrap (k + 1) = ((k + 1 : Nat) : Int) := by rw [wrap_in (by omega) (by omega)]; omega
      have w1 : IntKind.i64.wrap (2 * k) = 2 * (k : Int) := wrap_in (by omega) (by omega)
      have w2 : IntKind.i64.wrap (2 * (k : Int) + 1) = 2 * (k : Int) + 1 := wrap_in (by omega) (by omega)
      have z := hs'.2.2.1 x (List.mem_of_getElem? hx)
      have q1 : (-9223372036854775808 ≤ x.i.lo ∧ x.i.lo ≤ 9223372036854775807) ∧ -9223372036854775808 ≤ x.i.hi ∧ x.i.hi ≤ 9223372036854775807 := by omega
      have q2 : (-9223372036854775808 ≤ x.c.lo ∧ x.c.lo ≤ 9223372036854775807) ∧ -9223372036854775808 ≤ x.c.hi ∧ x.c.hi ≤ 9223372036854775807 := by omega
      have s1 := chIx_succ B bits k
      have s2 := chCo_succ B bits k
      rw [blankAt_eq hx] at s1 s2
      have el1 : (ints (chIx B bits k)).length = k := by rw [ints_len, chIx_len]
      have el2 : (ints (chCo B bits k)).length = k := by rw [ints_len, chCo_len]
      have hroom : (k + 1) * 8 ≤ 140737488355328 := by omega
      have hk8 : (k : Int) < 8 := by omega
      simp (decide := true) (maxSteps := 4000000) only [go_sem, Nat.reduceAdd, Nat.reduceSub, Nat.reduceMul, Nat.reduceDiv, Nat.reduceMod, Nat.reduceLT, Nat.reduceLeDiff, Nat.reduceEqDiff, Nat.reduceBEq, Nat.reduceBNe, Nat.reduceGT, Int.reduceAdd, Int.reduceSub, Int.reduceMul, Int.reduceNeg, Int.reduceLT, Int.reduceLE, Int.reduceEq, Int.reduceNe, Int.reduceBEq, Int.reduceBNe, Int.reduceToNat, Int.reduceGT, Int.reduceGE, ↓reduceIte, decide_true, decide_false, eq_self, Nat.mul_one, Nat.zero_mul, Nat.one_mul, Int.le_refl, Nat.le_refl, Int.cast_ofNat_Int, hlt, hk8, hd, Blank.cs, el1, el2, hroom, rI, hlb, w1, w2, q1, q2, Int.toNat_natCast]
      refine hI1 _ ⟨k + 1, by omega⟩ (by simp only; omega) ?_
      simp (decide := true) (maxSteps := 4000000) only [go_sem, Nat.reduceAdd, Nat.reduceSub, Nat.reduceMul, Nat.reduceDiv, Nat.reduceMod, Nat.reduceLT, Nat.reduceLeDiff, Nat.reduceEqDiff, Nat.reduceBEq, Nat.reduceBNe, Nat.reduceGT, Int.reduceAdd, Int.reduceSub, Int.reduceMul, Int.reduceNeg, Int.reduceLT, Int.reduceLE, Int.reduceEq, Int.reduceNe, Int.reduceBEq, Int.reduceBNe, Int.reduceToNat, Int.reduceGT, Int.reduceGE, ↓reduceIte, decide_true, decide_false, eq_self, Nat.mul_one, Nat.zero_mul, Nat.one_mul, Int.le_refl, Nat.le_refl, Int.cast_ofNat_Int, hc1, s1, s2, ints_snoc']
    · have hke : k = B.length := by omega
      subst hke
      simp (decide := true) (maxSteps := 4000000) only [go_sem, Nat.reduceAdd, Nat.reduceSub, Nat.reduceMul, Nat.reduceDiv, Nat.reduceMod, Nat.reduceLT, Nat.reduceLeDiff, Nat.reduceEqDiff, Nat.reduceBEq, Nat.reduceBNe, Nat.reduceGT, Int.reduceAdd, Int.reduceSub, Int.reduceMul, Int.reduceNeg, Int.reduceLT, Int.reduceLE, Int.reduceEq, Int.reduceNe, Int.reduceBEq, Int.reduceBNe, Int.reduceToNat, Int.reduceGT, Int.reduceGE, ↓reduceIte, decide_true, decide_false, eq_self, Nat.mul_one, Nat.zero_mul, Nat.one_mul, Int.le_refl, Nat.le_refl, Int.cast_ofNat_Int, hlt]
      refine hQ1 _ _ ?_
      simp (decide := true) (maxSteps := 4000000) only [go_sem, Nat.reduceAdd, Nat.reduceSub, Nat.reduceMul, Nat.reduceDiv, Nat.reduceMod, Nat.reduceLT, Nat.reduceLeDiff, Nat.reduceEqDiff, Nat.reduceBEq, Nat.reduceBNe, Nat.reduceGT, Int.reduceAdd, Int.reduceSub, Int.reduceMul, Int.reduceNeg, Int.reduceLT, Int.reduceLE, Int.reduceEq, Int.reduceNe, Int.reduceBEq, Int.reduceBNe, Int.reduceToNat, Int.reduceGT, Int.reduceGE, ↓reduceIte, decide_true, decide_false, eq_self, Nat.mul_one, Nat.zero_mul, Nat.one_mul, Int.le_refl, Nat.le_refl, Int.cast_ofNat_Int]
      refine pwpC_loopU (A := { k : Nat // k ≤ T.length }) [1, 2, 4, 5] (fun k => [(7, .t (.int .i64 k.1))]) (fun k => [(2, .box [.own (ints (chIx B bits B.length)) B.length 3, .own (ints (chCo B bits B.length)) B.length 4, .own (ints (chCu T bits k.1)) k.1 5]), (5, .tok k.1 3)]) (fun k => T.length - k.1) ⟨0, by omega⟩ (by decide) (fun _ => by rfl) ?_ fun Q2 hQ2 ⟨m, hm⟩ I2 hI2 => ?_
      · simp (decide := true) (maxSteps := 4000000) only [go_sem, Nat.reduceAdd, Nat.reduceSub, Nat.reduceMul, Nat.reduceDiv, Nat.reduceMod, Nat.reduceLT, Nat.reduceLeDiff, Nat.reduceEqDiff, Nat.reduceBEq, Nat.reduceBNe, Nat.reduceGT, Int.reduceAdd, Int.reduceSub, Int.reduceMul, Int.reduceNeg, Int.reduceLT, Int.reduceLE, Int.reduceEq, Int.reduceNe, Int.reduceBEq, Int.reduceBNe, Int.reduceToNat, Int.reduceGT, Int.reduceGE, ↓reduceIte, decide_true, decide_false, eq_self, Nat.mul_one, Nat.zero_mul, Nat.one_mul, Int.le_refl, Nat.le_refl, Int.cast_ofNat_Int, chCu, List.range_zero, List.map_nil, ints]
        first | done | rfl
      · by_cases hlt2 : (m : Int) < T.length
        · obtain ⟨y, hy⟩ := get_lt hlt2
          have hd := flat_at Span.cs (n := 2) (fun _ => rfl) hy
          have hc1 : IntKind.i64.wrap (m + 1) = ((m + 1 : Nat) : Int) := by rw [wrap_in (by omega) (by omega)]; omega
          have w1 : IntKind.i64.wrap (m + 5) = (m : Int) + 5 := wrap_in (by omega) (by omega)
          have z := hs'.2.2.2 y (List.mem_of_getElem? hy)
          have q1 : (-9223372036854775808 ≤ y.lo ∧ y.lo ≤ 9223372036854775807) ∧ -9223372036854775808 ≤ y.hi ∧ y.hi ≤ 9223372036854775807 := by omega
          have s3 := chCu_succ T bits m
          rw [toolAt_eq hy] at s3
          have el3 : (ints (chCu T bits m)).length = m := by rw [ints_len, chCu_len]
          have hroom : (m + 1) * 8 ≤ 140737488355328 := by omega
          have hm6 : (m : Int) < 6 := by omega
          simp (decide := true) (maxSteps := 4000000) only [go_sem, Nat.reduceAdd, Nat.reduceSub, Nat.reduceMul, Nat.reduceDiv, Nat.reduceMod, Nat.reduceLT, Nat.reduceLeDiff, Nat.reduceEqDiff, Nat.reduceBEq, Nat.reduceBNe, Nat.reduceGT, Int.reduceAdd, Int.reduceSub, Int.reduceMul, Int.reduceNeg, Int.reduceLT, Int.reduceLE, Int.reduceEq, Int.reduceNe, Int.reduceBEq, Int.reduceBNe, Int.reduceToNat, Int.reduceGT, Int.reduceGE, ↓reduceIte, decide_true, decide_false, eq_self, Nat.mul_one, Nat.zero_mul, Nat.one_mul, Int.le_refl, Nat.le_refl, Int.cast_ofNat_Int, hlt2, hm6, hd, Span.cs, el3, hroom, rI, hlb, w1, q1, Int.toNat_natCast]
          refine hI2 _ ⟨m + 1, by omega⟩ (by simp only; omega) ?_
          simp (decide := true) (maxSteps := 4000000) only [go_sem, Nat.reduceAdd, Nat.reduceSub, Nat.reduceMul, Nat.reduceDiv, Nat.reduceMod, Nat.reduceLT, Nat.reduceLeDiff, Nat.reduceEqDiff, Nat.reduceBEq, Nat.reduceBNe, Nat.reduceGT, Int.reduceAdd, Int.reduceSub, Int.reduceMul, Int.reduceNeg, Int.reduceLT, Int.reduceLE, Int.reduceEq, Int.reduceNe, Int.reduceBEq, Int.reduceBNe, Int.reduceToNat, Int.reduceGT, Int.reduceGE, ↓reduceIte, decide_true, decide_false, eq_self, Nat.mul_one, Nat.zero_mul, Nat.one_mul, Int.le_refl, Nat.le_refl, Int.cast_ofNat_Int, hc1, s3, ints_snoc']
        · have hme : m = T.length := by omega
          subst hme
          have n1 : ¬ B.length = 0 := by omega
          have n2 : ¬ T.length = 0 := by omega
          simp (decide := true) (maxSteps := 4000000) only [go_sem, Nat.reduceAdd, Nat.reduceSub, Nat.reduceMul, Nat.reduceDiv, Nat.reduceMod, Nat.reduceLT, Nat.reduceLeDiff, Nat.reduceEqDiff, Nat.reduceBEq, Nat.reduceBNe, Nat.reduceGT, Int.reduceAdd, Int.reduceSub, Int.reduceMul, Int.reduceNeg, Int.reduceLT, Int.reduceLE, Int.reduceEq, Int.reduceNe, Int.reduceBEq, Int.reduceBNe, Int.reduceToNat, Int.reduceGT, Int.reduceGE, ↓reduceIte, decide_true, decide_false, eq_self, Nat.mul_one, Nat.zero_mul, Nat.one_mul, Int.le_refl, Nat.le_refl, Int.cast_ofNat_Int, hlt2]
          refine hQ2 _ _ ?_
          simp (decide := true) (maxSteps := 4000000) only [go_sem, Nat.reduceAdd, Nat.reduceSub, Nat.reduceMul, Nat.reduceDiv, Nat.reduceMod, Nat.reduceLT, Nat.reduceLeDiff, Nat.reduceEqDiff, Nat.reduceBEq, Nat.reduceBNe, Nat.reduceGT, Int.reduceAdd, Int.reduceSub, Int.reduceMul, Int.reduceNeg, Int.reduceLT, Int.reduceLE, Int.reduceEq, Int.reduceNe, Int.reduceBEq, Int.reduceBNe, Int.reduceToNat, Int.reduceGT, Int.reduceGE, ↓reduceIte, decide_true, decide_false, eq_self, Nat.mul_one, Nat.zero_mul, Nat.one_mul, Int.le_refl, Nat.le_refl, Int.cast_ofNat_Int, n1, n2]
noncomputable def goChosen : List TV → Option TV
  | [.agg [.sl cB n fB, .sl cT m fT], s] => match unBlanks cB, unSpans cT, rowL unI s with
    | some B, some T, some bits => if n = B.length ∧ m = T.length ∧ stockOk B T = true ∧ bits.length ≤ 9223372036854775806 then
        some (.agg [.sl (ints (chIx B bits B.length)) B.length false, .sl (ints (chCo B bits B.length)) B.length false, .sl (ints (chCu T bits T.length)) T.length false]) else none
    | _, _, _ => none
  | _ => none
theorem goChosen_ok : ∀ xs r, goChosen xs = some r → PCalls Try.prog 33 xs r := by
  intro xs r h
  unfold goChosen at h
  split at h
  · split at h
    · rename_i B T bits hB hT hI
      split at h
      · rename_i hc; cases h
        obtain ⟨rfl, rfl, h1, h2⟩ := hc
        rw [unBlanks_some hB, unSpans_some hT]
        exact oChosen_c _ _ h1 (rowL_some (un := unI) rfl (@unI_some) hI) h2
      · cases h
    · cases h
  · cases h
attribute [go_sem] goChosen
noncomputable def spN2 : Pm.Spec := spN1.one 33 goChosen
@[go_sem] theorem spN2_p (f : FuncId) (xs : List TV) : spN2.p f xs = Pm.Spec.p (spN1.one 33 goChosen) f xs := rfl
@[go_sem] theorem spN2_h (f : FuncId) (ps : List PV) (hl : List PO) : spN2.h f ps hl = Pm.Spec.h (spN1.one 33 goChosen) f ps hl := rfl
@[go_sem] theorem spN2_fz (f : FuncId) : spN2.fz f = Pm.Spec.fz (spN1.one 33 goChosen) f := rfl
@[go_sem] theorem spN2_fr (f : FuncId) : spN2.fr f = Pm.Spec.fr (spN1.one 33 goChosen) f := rfl
@[go_sem] theorem spN2_mu (t : TypeId) : spN2.mu t = Pm.Spec.mu (spN1.one 33 goChosen) t := rfl
theorem spN2_ok : SpecOk Try.prog spN2 := Spec.one_ok goChosen_ok spN1_ok
end Go.Proofs.Ytcjcnmpecmbdeaa

/- Part Gso. -/
namespace Go.Oc
open Go Go.Pm
theorem flR_len {α : Type} (c : α → List TV) {n : Nat} (hc : ∀ x, (c x).length = n) (l : List α) : (l.flatMap c).length = l.length * n := by
  induction l with
  | nil => simp
  | cons x l ih => rw [List.flatMap_cons, List.length_append, ih, hc, List.length_cons, Nat.add_mul]; omega
theorem flR_take {α : Type} (c : α → List TV) {n : Nat} (hc : ∀ x, (c x).length = n) : ∀ (l : List α) (j : Nat), (l.flatMap c).take (j * n) = (l.take j).flatMap c
  | [], j => by simp
  | x :: l, 0 => by simp
  | x :: l, j + 1 => by
    rw [List.take_succ_cons, List.flatMap_cons, List.flatMap_cons, show (j + 1) * n = n + j * n by rw [Nat.add_mul]; omega, List.take_append, hc, List.take_of_length_le (by rw [hc]; omega), show n + j * n - n = j * n by omega, flR_take c hc l j]
/-- Is there one among the first ones? -/
def anyTo (f : Span → Bool) (l : List Span) (k : Nat) : Bool := (l.take k).any f
theorem anyTo_succ (f : Span → Bool) {l : List Span} {k : Nat} {x : Span} (h : l[k]? = some x) : anyTo f l (k + 1) = (anyTo f l k || f x) := by
  unfold anyTo; rw [take_snoc h, List.any_append]; simp
theorem anyTo_all {f : Span → Bool} {l : List Span} (h : ∃ x ∈ l, f x = true) : anyTo f l l.length = true := by
  unfold anyTo; rw [List.take_length, List.any_eq_true]; exact h
/-- Spans that do not touch each other, one behind the other, and what they cover. -/
def SurfOk (l : List Fr) (k : Nat) (out : List Span) : Prop := out.Pairwise (fun s t => s.hi + 1 < t.lo) ∧ (∀ s ∈ out, s.lo ≤ s.hi ∧ -2000 ≤ s.lo ∧ s.hi < -2000 + (k : Int)) ∧ ∀ c : Int, -2000 ≤ c → c < -2000 + (k : Int) → ((∃ s ∈ out, s.lo ≤ c ∧ c ≤ s.hi) ↔ frAll l c = true)
theorem surf_ok (l : List Fr) : ∀ k, SurfOk l k (surfTo l k)
  | 0 => ⟨List.Pairwise.nil, fun s h => (by cases h), fun c h1 h2 => (by omega)⟩
  | k + 1 => by
    obtain ⟨h1, h2, h3⟩ := surf_ok l k
    rw [surfTo_succ]
    unfold surfStep
    have hk : ((k : Int) - 2000) = -2000 + (k : Int) := by omega
    generalize surfTo l k = out at h1 h2 h3
    have old : ∀ c : Int, -2000 ≤ c → c < -2000 + (k : Int) → ((∃ s ∈ out, s.lo ≤ c ∧ c ≤ s.hi) ↔ frAll l c = true) := h3
    have none_new : ¬ ∃ s ∈ out, s.lo ≤ -2000 + (k : Int) ∧ -2000 + (k : Int) ≤ s.hi := by
      rintro ⟨s, hs, a, b⟩
      have := h2 s hs
      omega
    rw [hk]
    cases hf : frAll l (-2000 + (k : Int)) with
    | false =>
      simp only [Bool.false_eq_true, if_false]
      refine ⟨h1, fun s hs => by have := h2 s hs; omega, fun c a b => ?_⟩
      by_cases e : c < -2000 + (k : Int)
      · exact h3 c a e
      · have : c = -2000 + (k : Int) := by omega
        subst this
        rw [hf]
        exact ⟨fun h => absurd h none_new, fun h => by cases h⟩
    | true =>
      simp only [if_true]
      have app : ∀ x : Span, x.lo = -2000 + (k : Int) → x.hi = -2000 + (k : Int) → (∀ s ∈ out, s.hi + 1 < x.lo) → SurfOk l (k + 1) (out ++ [x]) := by
        intro x e1 e2 hx
        refine ⟨?_, fun s hs => ?_, fun c a b => ?_⟩
        · rw [List.pairwise_append]
          refine ⟨h1, List.pairwise_singleton _ _, fun s hs t ht => ?_⟩
          rw [List.mem_singleton] at ht; subst ht; exact hx s hs
        · rcases List.mem_append.1 hs with hs | hs
          · have := h2 s hs; omega
          · rw [List.mem_singleton] at hs; subst hs; omega
        · by_cases e : c < -2000 + (k : Int)
          · rw [← h3 c a e]
            constructor
            · rintro ⟨s, hs, p⟩
              rcases List.mem_append.1 hs with hs | hs
              · exact ⟨s, hs, p⟩
              · rw [List.mem_singleton] at hs; subst hs; omega
            · rintro ⟨s, hs, p⟩; exact ⟨s, List.mem_append_left _ hs, p⟩
          · have : c = -2000 + (k : Int) := by omega
            subst this
            rw [hf]
            exact ⟨fun _ => rfl, fun _ => ⟨x, by simp, by omega⟩⟩
      rcases snoc_cases out with rfl | ⟨i, y, rfl⟩
      · simp only [List.getLast?_nil]
        exact app _ rfl rfl (fun s hs => by cases hs)
      · rw [List.getLast?_append]
        simp only [List.getLast?_singleton, Option.some_or]
        rw [List.pairwise_append] at h1
        have hy := h2 y (by simp)
        split
        · rename_i hyh
          rw [List.dropLast_concat]
          refine ⟨?_, fun s hs => ?_, fun c a b => ?_⟩
          · rw [List.pairwise_append]
            refine ⟨h1.1, List.pairwise_singleton _ _, fun s hs t ht => ?_⟩
            rw [List.mem_singleton] at ht; subst ht
            exact h1.2.2 s hs y (by simp)
          · rcases List.mem_append.1 hs with hs | hs
            · have := h2 s (List.mem_append_left _ hs); omega
            · rw [List.mem_singleton] at hs; subst hs; simp only; omega
          · by_cases e : c < -2000 + (k : Int)
            · rw [← old c a e]
              constructor
              · rintro ⟨s, hs, p⟩
                rcases List.mem_append.1 hs with hs | hs
                · exact ⟨s, List.mem_append_left _ hs, p⟩
                · rw [List.mem_singleton] at hs; subst hs
                  simp only at p
                  exact ⟨y, by simp, by omega⟩
              · rintro ⟨s, hs, p⟩
                rcases List.mem_append.1 hs with hs | hs
                · exact ⟨s, List.mem_append_left _ hs, p⟩
                · rw [List.mem_singleton] at hs; subst hs
                  exact ⟨⟨s.lo, -2000 + (k : Int)⟩, by simp, by simp only; omega⟩
            · have : c = -2000 + (k : Int) := by omega
              subst this
              rw [hf]
              exact ⟨fun _ => rfl, fun _ => ⟨⟨y.lo, -2000 + (k : Int)⟩, by simp, by simp only; omega⟩⟩
        · rename_i hyh
          refine app _ rfl rfl fun s hs => ?_
          simp only
          rcases List.mem_append.1 hs with hs | hs
          · have := h1.2.2 s hs y (by simp); omega
          · rw [List.mem_singleton] at hs; subst hs; omega
/-- What is covered by spans, is so by one of them. -/
theorem surf_one {l : List Fr} {k : Nat} {out : List Span} (h : SurfOk l k out) {a b : Int} (hab : a ≤ b) (ha : -2000 ≤ a) (hb : b < -2000 + (k : Int)) (hc : ∀ c, a ≤ c → c ≤ b → frAll l c = true) : ∃ t ∈ out, t.lo ≤ a ∧ b ≤ t.hi := by
  obtain ⟨h1, h2, h3⟩ := h
  obtain ⟨t, ht, p⟩ := (h3 a ha (by omega)).2 (hc a (by omega) hab)
  refine ⟨t, ht, p.1, ?_⟩
  apply Classical.byContradiction
  intro hlt
  obtain ⟨u, hu, q⟩ := (h3 (t.hi + 1) (by omega) (by omega)).2 (hc _ (by omega) (by omega))
  have key : ∀ {out : List Span}, out.Pairwise (fun s t => s.hi + 1 < t.lo) → t ∈ out → u ∈ out → t = u ∨ t.hi + 1 < u.lo ∨ u.hi + 1 < t.lo := by
    intro out hp
    induction hp with
    | nil => intro h; cases h
    | cons hx _ ih =>
      intro h h'
      rcases List.mem_cons.1 h with rfl | g
      · rcases List.mem_cons.1 h' with rfl | g'
        · exact .inl rfl
        · exact .inr (.inl (hx _ g'))
      · rcases List.mem_cons.1 h' with rfl | g'
        · exact .inr (.inr (hx _ g))
        · exact ih g g'
  rcases key h1 ht hu with e | e | e
  · subst e; omega
  · omega
  · omega

def absI (n : Int) : Int := max n (-n)
/-- The rings that are seen of a surface on a plate. -/
def seen1 (x : Fr) (c : Int) (bits : List Int) (i : Nat) : Option Fr :=
  if spannedB x.p (-1000) 1000 then
    if absI (c - chosen x.p.lo x.p.hi (pickI bits i)) > 1000 then none
    else some ⟨x.p, ⟨max 0 (absI (c - chosen x.p.lo x.p.hi (pickI bits i)) - pickI bits (i + 1) % 3), min 1000 (absI (c - chosen x.p.lo x.p.hi (pickI bits i)) + pickI bits (i + 2) % 3)⟩,
      if pickI bits (i + 3) % 3 = 0 ∧ absI (c - chosen x.p.lo x.p.hi (pickI bits i)) > 0 then (c - chosen x.p.lo x.p.hi (pickI bits i)).tdiv (absI (c - chosen x.p.lo x.p.hi (pickI bits i))) else 0⟩
  else none
theorem tdiv_abs {d : Int} (h : absI d > 0) : d.tdiv (absI d) = if d > 0 then 1 else -1 := by
  unfold absI at h ⊢
  by_cases h1 : d > 0
  · rw [if_pos h1, show max d (-d) = d by omega, Int.tdiv_self (by omega)]
  · rw [if_neg h1, show max d (-d) = -d by omega, Int.tdiv_neg, Int.tdiv_self (by omega)]
theorem seen1_ok {x y : Fr} {c : Int} {bits : List Int} {i : Nat} (h : seen1 x c bits i = some y) : frOk y = true ∧ agB y c = true := by
  unfold seen1 at h
  split at h
  · rename_i hx
    split at h
    · cases h
    · rename_i hf
      simp only [Option.some.injEq] at h
      subst h
      simp only [spannedB, Bool.and_eq_true, decide_eq_true_eq] at hx
      have hp := chosen_mem (pickI bits i) hx.1.2
      have m1 := Int.emod_nonneg (pickI bits (i + 1)) (show (3 : Int) ≠ 0 by omega)
      have m2 := Int.emod_nonneg (pickI bits (i + 2)) (show (3 : Int) ≠ 0 by omega)
      generalize chosen x.p.lo x.p.hi (pickI bits i) = p at hp hf ⊢
      generalize pickI bits (i + 1) % 3 = a1 at m1 ⊢
      generalize pickI bits (i + 2) % 3 = a2 at m2 ⊢
      have hg : (if pickI bits (i + 3) % 3 = 0 ∧ absI (c - p) > 0 then (c - p).tdiv (absI (c - p)) else 0) = 0 ∨ ((if pickI bits (i + 3) % 3 = 0 ∧ absI (c - p) > 0 then (c - p).tdiv (absI (c - p)) else 0) = 1 ∧ c > p) ∨ ((if pickI bits (i + 3) % 3 = 0 ∧ absI (c - p) > 0 then (c - p).tdiv (absI (c - p)) else 0) = -1 ∧ c < p) := by
        split
        · rename_i hc
          rw [tdiv_abs hc.2]
          have := hc.2
          unfold absI at this
          split
          · right; left; exact ⟨rfl, by omega⟩
          · right; right; exact ⟨rfl, by omega⟩
        · exact .inl rfl
      generalize (if pickI bits (i + 3) % 3 = 0 ∧ absI (c - p) > 0 then (c - p).tdiv (absI (c - p)) else 0) = g at hg ⊢
      unfold absI at hf ⊢
      refine ⟨frOk_iff.2 (by simp only; omega), ?_⟩
      unfold agB
      simp only [Bool.or_eq_true, Bool.and_eq_true, decide_eq_true_eq, inB_iff]
      omega
  · cases h
def seenTo (l : List Fr) (c : Int) (bits : List Int) : Nat → List Fr
  | 0 => []
  | k + 1 => seenTo l c bits k ++ (match l[k]? with | some x => (seen1 x c bits k).toList | none => [])
theorem seenTo_len (l : List Fr) (c : Int) (bits : List Int) : ∀ k, (seenTo l c bits k).length ≤ k
  | 0 => Nat.le_refl _
  | k + 1 => by
    have ih := seenTo_len l c bits k
    unfold seenTo
    rw [List.length_append]
    split
    · rename_i x hx
      cases seen1 x c bits k with
      | none => simp only [Option.toList, List.length_nil]; omega
      | some y => simp only [Option.toList, List.length_cons, List.length_nil]; omega
    · simp only [List.length_nil]; omega
theorem seenTo_ok (l : List Fr) (c : Int) (bits : List Int) : ∀ k, ∀ y ∈ seenTo l c bits k, frOk y = true ∧ agB y c = true
  | 0, y, h => by cases h
  | k + 1, y, h => by
    unfold seenTo at h
    rcases List.mem_append.1 h with h | h
    · exact seenTo_ok l c bits k y h
    · split at h
      · rename_i x hx
        cases hs : seen1 x c bits k with
        | none => rw [hs] at h; cases h
        | some z =>
          rw [hs] at h
          simp only [Option.toList, List.mem_singleton] at h
          subst h; exact seen1_ok hs
      · cases h
/-- What is said of the surface that is so in truth. -/
theorem ringed {S : List Fr} {c : Int} (h1 : 1 ≤ S.length) (h12 : S.length ≤ 12) (hS : ∀ y ∈ S, frOk y = true ∧ agB y c = true) (hc : -1000 ≤ c ∧ c < 1000) {j : Nat} (hj1 : 1 ≤ j) (hj : j ≤ S.length) :
    ∃ out less, surfP S = (out, 0) ∧ surfP (S.take j) = (less, 0) ∧ (1 ≤ out.length ∧ out.length ≤ 4001) ∧ (1 ≤ less.length ∧ less.length ≤ 4001) ∧ (∃ s ∈ out, s.lo ≤ c ∧ c ≤ s.hi) ∧ (∀ s ∈ out, s.lo ≤ s.hi ∧ -2000 ≤ s.lo ∧ s.hi ≤ 2000) ∧ out.Pairwise (fun s t => s.hi + 1 < t.lo) ∧
    ∀ s ∈ out, ∃ t ∈ less, t.lo ≤ s.lo ∧ s.hi ≤ t.hi := by
  have one : ∀ S : List Fr, 1 ≤ S.length → S.length ≤ 12 → (∀ y ∈ S, frOk y = true ∧ agB y c = true) → surfP S = (surfTo S 4001, 0) ∧ (1 ≤ (surfTo S 4001).length ∧ (surfTo S 4001).length ≤ 4001) ∧ ∃ s ∈ surfTo S 4001, s.lo ≤ c ∧ c ≤ s.hi := by
    intro S h1 h12 hS
    have hok : frsOk S = true := by
      simp only [frsOk, inB, Bool.and_eq_true, decide_eq_true_eq, List.all_eq_true]
      exact ⟨by omega, fun y hy => (hS y hy).1⟩
    have hall : frAll S c = true := by
      unfold frAll; rw [List.all_eq_true]; exact fun y hy => (hS y hy).2
    obtain ⟨s, hs, p⟩ := ((surf_ok S 4001).2.2 c (by omega) (by omega)).2 hall
    have hne : surfTo S 4001 ≠ [] := by intro e; rw [e] at hs; cases hs
    have hl := surf_len S 4001
    have hp := List.length_pos_iff.2 hne
    refine ⟨?_, ⟨hp, hl⟩, s, hs, p⟩
    unfold surfP
    rw [if_neg (by rw [hok]; decide), if_neg hne]
  obtain ⟨a1, a2, a3⟩ := one S h1 h12 hS
  obtain ⟨b1, b2, b3⟩ := one (S.take j) (by rw [List.length_take]; omega) (by rw [List.length_take]; omega) (fun y hy => hS y (List.mem_of_mem_take hy))
  obtain ⟨c1, c2, c3⟩ := surf_ok S 4001
  refine ⟨_, _, a1, b1, a2, b2, a3, fun s hs => by have := c2 s hs; omega, c1, fun s hs => ?_⟩
  have hs' := c2 s hs
  refine surf_one (surf_ok (S.take j) 4001) hs'.1 hs'.2.1 (by omega) fun d d1 d2 => ?_
  have hd := (c3 d (by omega) (by omega)).1 ⟨s, hs, d1, d2⟩
  unfold frAll at hd ⊢
  rw [List.all_eq_true] at hd ⊢
  exact fun y hy => hd y (List.mem_of_mem_take hy)
end Go.Oc

/- Part Gs2. -/
namespace Go.Proofs.Ytcjcnmpecmbdeaa
open Go.RowKit Go.Pm Go.Oc
set_option maxRecDepth 100000
set_option linter.unusedVariables false
set_option maxHeartbeats 8000000

noncomputable def spRg : Pm.Spec := spN1.one 50 goTo
@[go_sem] theorem spRg_p (f : FuncId) (xs : List TV) : spRg.p f xs = Pm.Spec.p (spN1.one 50 goTo) f xs := rfl
@[go_sem] theorem spRg_h (f : FuncId) (ps : List PV) (hl : List PO) : spRg.h f ps hl = Pm.Spec.h (spN1.one 50 goTo) f ps hl := rfl
@[go_sem] theorem spRg_fz (f : FuncId) : spRg.fz f = Pm.Spec.fz (spN1.one 50 goTo) f := rfl
@[go_sem] theorem spRg_fr (f : FuncId) : spRg.fr f = Pm.Spec.fr (spN1.one 50 goTo) f := rfl
@[go_sem] theorem spRg_mu (t : TypeId) : spRg.mu t = Pm.Spec.mu (spN1.one 50 goTo) t := rfl
theorem spRg_ok : SpecOk Try.prog spRg := Spec.one_ok goTo_ok spN1_ok
theorem GlassRinged_c {l : List Fr} {sl : TV} (hl : IsRow Fr.cs sl l) (hll : l.length ≤ 5864062014806) (n0 n1 : Int) {bits : List Int} {sb : TV} (hb : IsRow ic sb bits) (hlb : bits.length ≤ 9223372036854775806) : PCalls Try.prog 14 [sl, .agg [.int .i64 n0, .int .i64 n1], sb] (.bool true) := by
  have rF := rowF_is hl
  have rI := rowI_is hb
  unfold rowL at rF rI
  have u0 : unFrs [] = some [] := rfl
  have k0 := Int.emod_nonneg n0 (show (2000 : Int) ≠ 0 by omega)
  have k1 := Int.emod_lt_of_pos n0 (show (0 : Int) < 2000 by omega)
  obtain ⟨c, hc⟩ : ∃ c, n0 % 2000 - 1000 = c := ⟨_, rfl⟩
  have wc : IntKind.i64.wrap (n0 % 2000 - 1000) = c := by rw [wrap_in (by omega) (by omega)]; exact hc
  have hcb : -1000 ≤ c ∧ c < 1000 := by omega
  obtain ⟨L, hL⟩ : ∃ L, min l.length 12 = L := ⟨_, rfl⟩
  have sf0 : surfP [] = ([], 44) := rfl
  refine pcalls_by Try.mixes spRg_ok (fn := Try.f14) Try.func14 rfl (by kernel_rfl) (by show 3 ≤ _; decide) ?_
  rcases hl with ⟨rfl, rfl⟩ | ⟨f1, rfl⟩
  · simp (decide := true) (maxSteps := 4000000) only [go_sem, Nat.reduceAdd, Nat.reduceSub, Nat.reduceMul, Nat.reduceDiv, Nat.reduceMod, Nat.reduceLT, Nat.reduceLeDiff, Nat.reduceEqDiff, Nat.reduceBEq, Nat.reduceBNe, Nat.reduceGT, Int.reduceAdd, Int.reduceSub, Int.reduceMul, Int.reduceNeg, Int.reduceLT, Int.reduceLE, Int.reduceEq, Int.reduceNe, Int.reduceBEq, Int.reduceBNe, Int.reduceToNat, Int.reduceGT, Int.reduceGE, ↓reduceIte, decide_true, decide_false, eq_self, Nat.mul_one, Nat.zero_mul, Nat.one_mul, Int.le_refl, Nat.le_refl, Int.cast_ofNat_Int, Try.f14, wc]
    refine pwpC_loopU (A := Unit) [0, 2, 4, 7] (fun k => [(9, .t (.int .i64 0)), (8, .own [] 0 1)]) (fun k => [(1, .tok 0 93)]) (fun k => 0) () (by decide) (fun _ => by rfl) ?_ fun Q1 hQ1 _ I1 hI1 => ?_
    · simp (decide := true) (maxSteps := 4000000) only [go_sem, Nat.reduceAdd, Nat.reduceSub, Nat.reduceMul, Nat.reduceDiv, Nat.reduceMod, Nat.reduceLT, Nat.reduceLeDiff, Nat.reduceEqDiff, Nat.reduceBEq, Nat.reduceBNe, Nat.reduceGT, Int.reduceAdd, Int.reduceSub, Int.reduceMul, Int.reduceNeg, Int.reduceLT, Int.reduceLE, Int.reduceEq, Int.reduceNe, Int.reduceBEq, Int.reduceBNe, Int.reduceToNat, Int.reduceGT, Int.reduceGE, ↓reduceIte, decide_true, decide_false, eq_self, Nat.mul_one, Nat.zero_mul, Nat.one_mul, Int.le_refl, Nat.le_refl, Int.cast_ofNat_Int]
      first | done | exact ⟨⟨rfl, rfl⟩, rfl⟩ | exact ⟨rfl, rfl⟩ | rfl
    · simp (decide := true) (maxSteps := 4000000) only [go_sem, Nat.reduceAdd, Nat.reduceSub, Nat.reduceMul, Nat.reduceDiv, Nat.reduceMod, Nat.reduceLT, Nat.reduceLeDiff, Nat.reduceEqDiff, Nat.reduceBEq, Nat.reduceBNe, Nat.reduceGT, Int.reduceAdd, Int.reduceSub, Int.reduceMul, Int.reduceNeg, Int.reduceLT, Int.reduceLE, Int.reduceEq, Int.reduceNe, Int.reduceBEq, Int.reduceBNe, Int.reduceToNat, Int.reduceGT, Int.reduceGE, ↓reduceIte, decide_true, decide_false, eq_self, Nat.mul_one, Nat.zero_mul, Nat.one_mul, Int.le_refl, Nat.le_refl, Int.cast_ofNat_Int, List.length_nil, Int.lt_irrefl]
      refine hQ1 _ _ ?_
      simp (decide := true) (maxSteps := 4000000) only [go_sem, Nat.reduceAdd, Nat.reduceSub, Nat.reduceMul, Nat.reduceDiv, Nat.reduceMod, Nat.reduceLT, Nat.reduceLeDiff, Nat.reduceEqDiff, Nat.reduceBEq, Nat.reduceBNe, Nat.reduceGT, Int.reduceAdd, Int.reduceSub, Int.reduceMul, Int.reduceNeg, Int.reduceLT, Int.reduceLE, Int.reduceEq, Int.reduceNe, Int.reduceBEq, Int.reduceBNe, Int.reduceToNat, Int.reduceGT, Int.reduceGE, ↓reduceIte, decide_true, decide_false, eq_self, Nat.mul_one, Nat.zero_mul, Nat.one_mul, Int.le_refl, Nat.le_refl, Int.cast_ofNat_Int, u0, sf0, List.length_nil]
  simp (decide := true) (maxSteps := 4000000) only [go_sem, Nat.reduceAdd, Nat.reduceSub, Nat.reduceMul, Nat.reduceDiv, Nat.reduceMod, Nat.reduceLT, Nat.reduceLeDiff, Nat.reduceEqDiff, Nat.reduceBEq, Nat.reduceBNe, Nat.reduceGT, Int.reduceAdd, Int.reduceSub, Int.reduceMul, Int.reduceNeg, Int.reduceLT, Int.reduceLE, Int.reduceEq, Int.reduceNe, Int.reduceBEq, Int.reduceBNe, Int.reduceToNat, Int.reduceGT, Int.reduceGE, ↓reduceIte, decide_true, decide_false, eq_self, Nat.mul_one, Nat.zero_mul, Nat.one_mul, Int.le_refl, Nat.le_refl, Int.cast_ofNat_Int, Try.f14, wc]
  refine pwpC_loopU (A := { k : Nat // k ≤ L }) [0, 2, 4, 7] (fun k => [(9, .t (.int .i64 k.1)), (8, .own ((seenTo l c bits k.1).flatMap Fr.cs) (seenTo l c bits k.1).length 1)]) (fun k => [(1, .tok (seenTo l c bits k.1).length 93)]) (fun k => L - k.1) ⟨0, by omega⟩ (by decide) (fun _ => by rfl) ?_ fun Q1 hQ1 ⟨k, hk⟩ I1 hI1 => ?_
  · simp (decide := true) (maxSteps := 4000000) only [go_sem, Nat.reduceAdd, Nat.reduceSub, Nat.reduceMul, Nat.reduceDiv, Nat.reduceMod, Nat.reduceLT, Nat.reduceLeDiff, Nat.reduceEqDiff, Nat.reduceBEq, Nat.reduceBNe, Nat.reduceGT, Int.reduceAdd, Int.reduceSub, Int.reduceMul, Int.reduceNeg, Int.reduceLT, Int.reduceLE, Int.reduceEq, Int.reduceNe, Int.reduceBEq, Int.reduceBNe, Int.reduceToNat, Int.reduceGT, Int.reduceGE, ↓reduceIte, decide_true, decide_false, eq_self, Nat.mul_one, Nat.zero_mul, Nat.one_mul, Int.le_refl, Nat.le_refl, Int.cast_ofNat_Int, seenTo, List.flatMap_nil, List.length_nil]
    first | done | exact ⟨⟨rfl, rfl⟩, rfl⟩ | exact ⟨rfl, rfl⟩ | rfl
  · by_cases hlt : k < L
    · have hlt1 : (k : Int) < l.length := by omega
      have hlt2 : (k : Int) < 12 := by omega
      obtain ⟨x, hx⟩ := get_lt hlt1
      have hd := flat_at Fr.cs (n := 5) (fun _ => rfl) hx
      have hc1 : IntKind.i64.wrap (k + 1) = ((k + 1 : Nat) : Int) := by rw [wrap_in (by omega) (by omega)]; omega
      have hst : seenTo l c bits (k + 1) = seenTo l c bits k ++ (seen1 x c bits k).toList := by
        show seenTo l c bits k ++ _ = _
        rw [hx]
      have hsl := seenTo_len l c bits k
      have hfl : ((seenTo l c bits k).flatMap Fr.cs).length = (seenTo l c bits k).length * 5 := flR_len Fr.cs (n := 5) (fun _ => rfl) _
      have hroom : ((seenTo l c bits k).length + 1) * 40 ≤ 140737488355328 := by omega
      unfold seen1 at hst
      cases hsp : spannedB x.p (-1000) 1000 with
      | false =>
        rw [hsp] at hst
        simp only [Bool.false_eq_true, if_false, Option.toList, List.append_nil] at hst
        simp (decide := true) (maxSteps := 4000000) only [go_sem, Nat.reduceAdd, Nat.reduceSub, Nat.reduceMul, Nat.reduceDiv, Nat.reduceMod, Nat.reduceLT, Nat.reduceLeDiff, Nat.reduceEqDiff, Nat.reduceBEq, Nat.reduceBNe, Nat.reduceGT, Int.reduceAdd, Int.reduceSub, Int.reduceMul, Int.reduceNeg, Int.reduceLT, Int.reduceLE, Int.reduceEq, Int.reduceNe, Int.reduceBEq, Int.reduceBNe, Int.reduceToNat, Int.reduceGT, Int.reduceGE, ↓reduceIte, decide_true, decide_false, eq_self, Nat.mul_one, Nat.zero_mul, Nat.one_mul, Int.le_refl, Nat.le_refl, Int.cast_ofNat_Int, hlt1, hlt2, hd, Fr.cs, hsp, Int.toNat_natCast]
        refine hI1 _ ⟨k + 1, by omega⟩ (by simp only; omega) ?_
        simp (decide := true) (maxSteps := 4000000) only [go_sem, Nat.reduceAdd, Nat.reduceSub, Nat.reduceMul, Nat.reduceDiv, Nat.reduceMod, Nat.reduceLT, Nat.reduceLeDiff, Nat.reduceEqDiff, Nat.reduceBEq, Nat.reduceBNe, Nat.reduceGT, Int.reduceAdd, Int.reduceSub, Int.reduceMul, Int.reduceNeg, Int.reduceLT, Int.reduceLE, Int.reduceEq, Int.reduceNe, Int.reduceBEq, Int.reduceBNe, Int.reduceToNat, Int.reduceGT, Int.reduceGE, ↓reduceIte, decide_true, decide_false, eq_self, Nat.mul_one, Nat.zero_mul, Nat.one_mul, Int.le_refl, Nat.le_refl, Int.cast_ofNat_Int, hc1, hst]
      | true =>
        rw [hsp] at hst
        simp only [if_true] at hst
        simp only [spannedB, Bool.and_eq_true, decide_eq_true_eq] at hsp
        have hp := chosen_mem (pickI bits (k : Int)) hsp.1.2
        have hcz : (k : Int) + 1 = ((k + 1 : Nat) : Int) := by omega
        have w1 : IntKind.i64.wrap ((k : Int) + 1) = (k : Int) + 1 := wrap_in (by omega) (by omega)
        have w2 : IntKind.i64.wrap ((k : Int) + 2) = (k : Int) + 2 := wrap_in (by omega) (by omega)
        have w3 : IntKind.i64.wrap ((k : Int) + 3) = (k : Int) + 3 := wrap_in (by omega) (by omega)
        have q1 : (-9223372036854775808 ≤ x.p.lo ∧ x.p.lo ≤ 9223372036854775807) ∧ -9223372036854775808 ≤ x.p.hi ∧ x.p.hi ≤ 9223372036854775807 := by omega
        have sp : spannedB x.p (-1000) 1000 = true := by simp only [spannedB, Bool.and_eq_true, decide_eq_true_eq]; omega
        have m1 := Int.emod_nonneg (pickI bits ((k : Int) + 1)) (show (3 : Int) ≠ 0 by omega)
        have m2 := Int.emod_nonneg (pickI bits ((k : Int) + 2)) (show (3 : Int) ≠ 0 by omega)
        have m1' := Int.emod_lt_of_pos (pickI bits ((k : Int) + 1)) (show (0 : Int) < 3 by omega)
        have m2' := Int.emod_lt_of_pos (pickI bits ((k : Int) + 2)) (show (0 : Int) < 3 by omega)
        obtain ⟨p, hpe⟩ : ∃ p, chosen x.p.lo x.p.hi (pickI bits (k : Int)) = p := ⟨_, rfl⟩
        rw [hpe] at hst hp
        obtain ⟨a1, ha1⟩ : ∃ a, pickI bits ((k : Int) + 1) % 3 = a := ⟨_, rfl⟩
        obtain ⟨a2, ha2⟩ : ∃ a, pickI bits ((k : Int) + 2) % 3 = a := ⟨_, rfl⟩
        obtain ⟨a3, ha3⟩ : ∃ a, pickI bits ((k : Int) + 3) % 3 = a := ⟨_, rfl⟩
        rw [ha1, ha2, ha3] at hst
        rw [ha1] at m1 m1'
        rw [ha2] at m2 m2'
        have wd : IntKind.i64.wrap (c - p) = c - p := wrap_in (by omega) (by omega)
        have wd2 : IntKind.i64.wrap (0 - (c - p)) = -(c - p) := by rw [wrap_in (by omega) (by omega)]; omega
        have hab : max (c - p) (-(c - p)) = absI (c - p) := rfl
        have habb : 0 ≤ absI (c - p) ∧ absI (c - p) ≤ 2000 := by unfold absI; omega
        have hq := fun h => tdiv_abs (d := c - p) h
        have wq1 : IntKind.i64.wrap 1 = 1 := rfl
        have wq2 : IntKind.i64.wrap (-1) = -1 := rfl
        obtain ⟨A, hA⟩ : ∃ A, absI (c - p) = A := ⟨_, rfl⟩
        rw [hA] at hab hst habb hq
        have wa1 : IntKind.i64.wrap (A - a1) = A - a1 := wrap_in (by omega) (by omega)
        have wa2 : IntKind.i64.wrap (A + a2) = A + a2 := wrap_in (by omega) (by omega)
        by_cases hbig : A > 1000
        · rw [if_pos hbig] at hst
          simp only [Option.toList, List.append_nil] at hst
          simp (decide := true) (maxSteps := 4000000) only [go_sem, Nat.reduceAdd, Nat.reduceSub, Nat.reduceMul, Nat.reduceDiv, Nat.reduceMod, Nat.reduceLT, Nat.reduceLeDiff, Nat.reduceEqDiff, Nat.reduceBEq, Nat.reduceBNe, Nat.reduceGT, Int.reduceAdd, Int.reduceSub, Int.reduceMul, Int.reduceNeg, Int.reduceLT, Int.reduceLE, Int.reduceEq, Int.reduceNe, Int.reduceBEq, Int.reduceBNe, Int.reduceToNat, Int.reduceGT, Int.reduceGE, ↓reduceIte, decide_true, decide_false, eq_self, Nat.mul_one, Nat.zero_mul, Nat.one_mul, Int.le_refl, Nat.le_refl, Int.cast_ofNat_Int, hlt1, hlt2, hd, Fr.cs, sp, rI, hlb, q1, hpe, wd, wd2, hab, hbig, Int.toNat_natCast]
          refine hI1 _ ⟨k + 1, by omega⟩ (by simp only; omega) ?_
          simp (decide := true) (maxSteps := 4000000) only [go_sem, Nat.reduceAdd, Nat.reduceSub, Nat.reduceMul, Nat.reduceDiv, Nat.reduceMod, Nat.reduceLT, Nat.reduceLeDiff, Nat.reduceEqDiff, Nat.reduceBEq, Nat.reduceBNe, Nat.reduceGT, Int.reduceAdd, Int.reduceSub, Int.reduceMul, Int.reduceNeg, Int.reduceLT, Int.reduceLE, Int.reduceEq, Int.reduceNe, Int.reduceBEq, Int.reduceBNe, Int.reduceToNat, Int.reduceGT, Int.reduceGE, ↓reduceIte, decide_true, decide_false, eq_self, Nat.mul_one, Nat.zero_mul, Nat.one_mul, Int.le_refl, Nat.le_refl, Int.cast_ofNat_Int, hc1, hst]
        · rw [if_neg hbig] at hst
          simp only [Option.toList] at hst
          have hbig' : ¬ 1000 < A := by omega
          have hcs : ∀ g : Int, (seenTo l c bits k ++ [(⟨x.p, ⟨max 0 (A - a1), min 1000 (A + a2)⟩, g⟩ : Fr)]).flatMap Fr.cs = (seenTo l c bits k).flatMap Fr.cs ++ [.int .i64 x.p.lo, .int .i64 x.p.hi, .int .i64 (max 0 (A - a1)), .int .i64 (min 1000 (A + a2)), .int .i64 g] := fun g => by
            rw [List.flatMap_append]; rfl
          by_cases h3 : a3 = 0
          · have h3' : (a3 == 0) = true := beq_int_t h3
            by_cases hA0 : A > 0
            · rw [if_pos ⟨h3, hA0⟩, hq hA0] at hst
              have hne : ¬ A = 0 := by omega
              by_cases hd0 : c - p > 0
              · rw [if_pos hd0] at hst
                have hq' := hq hA0
                rw [if_pos hd0] at hq'
                simp (decide := true) (maxSteps := 4000000) only [go_sem, Nat.reduceAdd, Nat.reduceSub, Nat.reduceMul, Nat.reduceDiv, Nat.reduceMod, Nat.reduceLT, Nat.reduceLeDiff, Nat.reduceEqDiff, Nat.reduceBEq, Nat.reduceBNe, Nat.reduceGT, Int.reduceAdd, Int.reduceSub, Int.reduceMul, Int.reduceNeg, Int.reduceLT, Int.reduceLE, Int.reduceEq, Int.reduceNe, Int.reduceBEq, Int.reduceBNe, Int.reduceToNat, Int.reduceGT, Int.reduceGE, ↓reduceIte, decide_true, decide_false, eq_self, Nat.mul_one, Nat.zero_mul, Nat.one_mul, Int.le_refl, Nat.le_refl, Int.cast_ofNat_Int, hlt1, hlt2, hd, Fr.cs, sp, rI, hlb, q1, hpe, wd, wd2, hab, hbig, hbig', w1, w2, w3, ha1, ha2, ha3, wa1, wa2, h3', hA0, hne, hq', wq1, hfl, hroom, Int.toNat_natCast]
                refine hI1 _ ⟨k + 1, by omega⟩ (by simp only; omega) ?_
                simp (decide := true) (maxSteps := 4000000) only [go_sem, Nat.reduceAdd, Nat.reduceSub, Nat.reduceMul, Nat.reduceDiv, Nat.reduceMod, Nat.reduceLT, Nat.reduceLeDiff, Nat.reduceEqDiff, Nat.reduceBEq, Nat.reduceBNe, Nat.reduceGT, Int.reduceAdd, Int.reduceSub, Int.reduceMul, Int.reduceNeg, Int.reduceLT, Int.reduceLE, Int.reduceEq, Int.reduceNe, Int.reduceBEq, Int.reduceBNe, Int.reduceToNat, Int.reduceGT, Int.reduceGE, ↓reduceIte, decide_true, decide_false, eq_self, Nat.mul_one, Nat.zero_mul, Nat.one_mul, Int.le_refl, Nat.le_refl, Int.cast_ofNat_Int, hc1, hcz, hst, hcs, List.length_append, List.length_cons, List.length_nil]
              · rw [if_neg hd0] at hst
                have hq' := hq hA0
                rw [if_neg hd0] at hq'
                simp (decide := true) (maxSteps := 4000000) only [go_sem, Nat.reduceAdd, Nat.reduceSub, Nat.reduceMul, Nat.reduceDiv, Nat.reduceMod, Nat.reduceLT, Nat.reduceLeDiff, Nat.reduceEqDiff, Nat.reduceBEq, Nat.reduceBNe, Nat.reduceGT, Int.reduceAdd, Int.reduceSub, Int.reduceMul, Int.reduceNeg, Int.reduceLT, Int.reduceLE, Int.reduceEq, Int.reduceNe, Int.reduceBEq, Int.reduceBNe, Int.reduceToNat, Int.reduceGT, Int.reduceGE, ↓reduceIte, decide_true, decide_false, eq_self, Nat.mul_one, Nat.zero_mul, Nat.one_mul, Int.le_refl, Nat.le_refl, Int.cast_ofNat_Int, hlt1, hlt2, hd, Fr.cs, sp, rI, hlb, q1, hpe, wd, wd2, hab, hbig, hbig', w1, w2, w3, ha1, ha2, ha3, wa1, wa2, h3', hA0, hne, hq', wq2, hfl, hroom, Int.toNat_natCast]
                refine hI1 _ ⟨k + 1, by omega⟩ (by simp only; omega) ?_
                simp (decide := true) (maxSteps := 4000000) only [go_sem, Nat.reduceAdd, Nat.reduceSub, Nat.reduceMul, Nat.reduceDiv, Nat.reduceMod, Nat.reduceLT, Nat.reduceLeDiff, Nat.reduceEqDiff, Nat.reduceBEq, Nat.reduceBNe, Nat.reduceGT, Int.reduceAdd, Int.reduceSub, Int.reduceMul, Int.reduceNeg, Int.reduceLT, Int.reduceLE, Int.reduceEq, Int.reduceNe, Int.reduceBEq, Int.reduceBNe, Int.reduceToNat, Int.reduceGT, Int.reduceGE, ↓reduceIte, decide_true, decide_false, eq_self, Nat.mul_one, Nat.zero_mul, Nat.one_mul, Int.le_refl, Nat.le_refl, Int.cast_ofNat_Int, hc1, hcz, hst, hcs, List.length_append, List.length_cons, List.length_nil]
            · rw [if_neg (fun h => hA0 h.2)] at hst
              simp (decide := true) (maxSteps := 4000000) only [go_sem, Nat.reduceAdd, Nat.reduceSub, Nat.reduceMul, Nat.reduceDiv, Nat.reduceMod, Nat.reduceLT, Nat.reduceLeDiff, Nat.reduceEqDiff, Nat.reduceBEq, Nat.reduceBNe, Nat.reduceGT, Int.reduceAdd, Int.reduceSub, Int.reduceMul, Int.reduceNeg, Int.reduceLT, Int.reduceLE, Int.reduceEq, Int.reduceNe, Int.reduceBEq, Int.reduceBNe, Int.reduceToNat, Int.reduceGT, Int.reduceGE, ↓reduceIte, decide_true, decide_false, eq_self, Nat.mul_one, Nat.zero_mul, Nat.one_mul, Int.le_refl, Nat.le_refl, Int.cast_ofNat_Int, hlt1, hlt2, hd, Fr.cs, sp, rI, hlb, q1, hpe, wd, wd2, hab, hbig, hbig', w1, w2, w3, ha1, ha2, ha3, wa1, wa2, h3', hA0, hfl, hroom, Int.toNat_natCast]
              refine hI1 _ ⟨k + 1, by omega⟩ (by simp only; omega) ?_
              simp (decide := true) (maxSteps := 4000000) only [go_sem, Nat.reduceAdd, Nat.reduceSub, Nat.reduceMul, Nat.reduceDiv, Nat.reduceMod, Nat.reduceLT, Nat.reduceLeDiff, Nat.reduceEqDiff, Nat.reduceBEq, Nat.reduceBNe, Nat.reduceGT, Int.reduceAdd, Int.reduceSub, Int.reduceMul, Int.reduceNeg, Int.reduceLT, Int.reduceLE, Int.reduceEq, Int.reduceNe, Int.reduceBEq, Int.reduceBNe, Int.reduceToNat, Int.reduceGT, Int.reduceGE, ↓reduceIte, decide_true, decide_false, eq_self, Nat.mul_one, Nat.zero_mul, Nat.one_mul, Int.le_refl, Nat.le_refl, Int.cast_ofNat_Int, hc1, hcz, hst, hcs, List.length_append, List.length_cons, List.length_nil]
          · rw [if_neg (fun h => h3 h.1)] at hst
            have h3' : (a3 == 0) = false := beq_int_f h3
            simp (decide := true) (maxSteps := 4000000) only [go_sem, Nat.reduceAdd, Nat.reduceSub, Nat.reduceMul, Nat.reduceDiv, Nat.reduceMod, Nat.reduceLT, Nat.reduceLeDiff, Nat.reduceEqDiff, Nat.reduceBEq, Nat.reduceBNe, Nat.reduceGT, Int.reduceAdd, Int.reduceSub, Int.reduceMul, Int.reduceNeg, Int.reduceLT, Int.reduceLE, Int.reduceEq, Int.reduceNe, Int.reduceBEq, Int.reduceBNe, Int.reduceToNat, Int.reduceGT, Int.reduceGE, ↓reduceIte, decide_true, decide_false, eq_self, Nat.mul_one, Nat.zero_mul, Nat.one_mul, Int.le_refl, Nat.le_refl, Int.cast_ofNat_Int, hlt1, hlt2, hd, Fr.cs, sp, rI, hlb, q1, hpe, wd, wd2, hab, hbig, hbig', w1, w2, w3, ha1, ha2, ha3, wa1, wa2, h3', hfl, hroom, Int.toNat_natCast]
            refine hI1 _ ⟨k + 1, by omega⟩ (by simp only; omega) ?_
            simp (decide := true) (maxSteps := 4000000) only [go_sem, Nat.reduceAdd, Nat.reduceSub, Nat.reduceMul, Nat.reduceDiv, Nat.reduceMod, Nat.reduceLT, Nat.reduceLeDiff, Nat.reduceEqDiff, Nat.reduceBEq, Nat.reduceBNe, Nat.reduceGT, Int.reduceAdd, Int.reduceSub, Int.reduceMul, Int.reduceNeg, Int.reduceLT, Int.reduceLE, Int.reduceEq, Int.reduceNe, Int.reduceBEq, Int.reduceBNe, Int.reduceToNat, Int.reduceGT, Int.reduceGE, ↓reduceIte, decide_true, decide_false, eq_self, Nat.mul_one, Nat.zero_mul, Nat.one_mul, Int.le_refl, Nat.le_refl, Int.cast_ofNat_Int, hc1, hcz, hst, hcs, List.length_append, List.length_cons, List.length_nil]
    · have hkL : k = L := by omega
      subst hkL
      have hS := seenTo_ok l c bits k
      have hS12 := seenTo_len l c bits k
      generalize seenTo l c bits k = S at hS hS12 ⊢
      have hex : ¬ (k : Int) < l.length ∨ ((k : Int) < l.length ∧ ¬ (k : Int) < 12) := by omega
      by_cases hS0 : S.length = 0
      · have eS : S = [] := List.length_eq_zero_iff.1 hS0
        subst eS
        rcases hex with h | ⟨h, h'⟩
        all_goals
          first | simp (decide := true) (maxSteps := 4000000) only [go_sem, Nat.reduceAdd, Nat.reduceSub, Nat.reduceMul, Nat.reduceDiv, Nat.reduceMod, Nat.reduceLT, Nat.reduceLeDiff, Nat.reduceEqDiff, Nat.reduceBEq, Nat.reduceBNe, Nat.reduceGT, Int.reduceAdd, Int.reduceSub, Int.reduceMul, Int.reduceNeg, Int.reduceLT, Int.reduceLE, Int.reduceEq, Int.reduceNe, Int.reduceBEq, Int.reduceBNe, Int.reduceToNat, Int.reduceGT, Int.reduceGE, ↓reduceIte, decide_true, decide_false, eq_self, Nat.mul_one, Nat.zero_mul, Nat.one_mul, Int.le_refl, Nat.le_refl, Int.cast_ofNat_Int, h, h'] | simp (decide := true) (maxSteps := 4000000) only [go_sem, Nat.reduceAdd, Nat.reduceSub, Nat.reduceMul, Nat.reduceDiv, Nat.reduceMod, Nat.reduceLT, Nat.reduceLeDiff, Nat.reduceEqDiff, Nat.reduceBEq, Nat.reduceBNe, Nat.reduceGT, Int.reduceAdd, Int.reduceSub, Int.reduceMul, Int.reduceNeg, Int.reduceLT, Int.reduceLE, Int.reduceEq, Int.reduceNe, Int.reduceBEq, Int.reduceBNe, Int.reduceToNat, Int.reduceGT, Int.reduceGE, ↓reduceIte, decide_true, decide_false, eq_self, Nat.mul_one, Nat.zero_mul, Nat.one_mul, Int.le_refl, Nat.le_refl, Int.cast_ofNat_Int, h]
          refine hQ1 _ _ ?_
          simp (decide := true) (maxSteps := 4000000) only [go_sem, Nat.reduceAdd, Nat.reduceSub, Nat.reduceMul, Nat.reduceDiv, Nat.reduceMod, Nat.reduceLT, Nat.reduceLeDiff, Nat.reduceEqDiff, Nat.reduceBEq, Nat.reduceBNe, Nat.reduceGT, Int.reduceAdd, Int.reduceSub, Int.reduceMul, Int.reduceNeg, Int.reduceLT, Int.reduceLE, Int.reduceEq, Int.reduceNe, Int.reduceBEq, Int.reduceBNe, Int.reduceToNat, Int.reduceGT, Int.reduceGE, ↓reduceIte, decide_true, decide_false, eq_self, Nat.mul_one, Nat.zero_mul, Nat.one_mul, Int.le_refl, Nat.le_refl, Int.cast_ofNat_Int, u0, sf0, List.length_nil, List.flatMap_nil]
      · obtain ⟨j, hj⟩ : ∃ j : Nat, max 1 (n1 % (S.length : Int)) = (j : Int) := ⟨(max 1 (n1 % (S.length : Int))).toNat, by omega⟩
        have j1 := Int.emod_nonneg n1 (show (S.length : Int) ≠ 0 by omega)
        have j2 := Int.emod_lt_of_pos n1 (show 0 < (S.length : Int) by omega)
        have hm : 0 < (S.length : Int) ∧ (S.length : Int) ≤ 9223372036854775807 := by omega
        obtain ⟨out, less, s1, s2, o1, o2, hin, hob, hpw, hcov⟩ := ringed (S := S) (c := c) (by omega) (by omega) hS hcb (j := j) (by omega) (by omega)
        have nS : ((S.length : Int) == 0) = false := beq_int_f (by omega)
        have bS : S.length ≤ 5864062014806 := by omega
        have no1 : ¬ out.length = 0 := by omega
        have no2 : ¬ less.length = 0 := by omega
        have tkS := flR_take Fr.cs (n := 5) (fun _ => rfl) S j
        have ljS : (S.take j).length = j := by rw [List.length_take]; omega
        have bjS : j ≤ 5864062014806 := by omega
        have hjn : (j : Int) ≤ S.length := by omega
        have hjn' : j ≤ S.length := by omega
        have hj0 : (0 : Int) ≤ j := by omega
        have lcS := flR_len Fr.cs (n := 5) (fun _ => rfl) S
        have hinT : anyTo (fun s => inB c s.lo s.hi) out out.length = true := anyTo_all (by
          obtain ⟨s, hs, p⟩ := hin
          exact ⟨s, hs, inB_iff.2 p⟩)
        rcases hex with h | ⟨h, h'⟩
        all_goals
          first | simp (decide := true) (maxSteps := 4000000) only [go_sem, Nat.reduceAdd, Nat.reduceSub, Nat.reduceMul, Nat.reduceDiv, Nat.reduceMod, Nat.reduceLT, Nat.reduceLeDiff, Nat.reduceEqDiff, Nat.reduceBEq, Nat.reduceBNe, Nat.reduceGT, Int.reduceAdd, Int.reduceSub, Int.reduceMul, Int.reduceNeg, Int.reduceLT, Int.reduceLE, Int.reduceEq, Int.reduceNe, Int.reduceBEq, Int.reduceBNe, Int.reduceToNat, Int.reduceGT, Int.reduceGE, ↓reduceIte, decide_true, decide_false, eq_self, Nat.mul_one, Nat.zero_mul, Nat.one_mul, Int.le_refl, Nat.le_refl, Int.cast_ofNat_Int, h, h'] | simp (decide := true) (maxSteps := 4000000) only [go_sem, Nat.reduceAdd, Nat.reduceSub, Nat.reduceMul, Nat.reduceDiv, Nat.reduceMod, Nat.reduceLT, Nat.reduceLeDiff, Nat.reduceEqDiff, Nat.reduceBEq, Nat.reduceBNe, Nat.reduceGT, Int.reduceAdd, Int.reduceSub, Int.reduceMul, Int.reduceNeg, Int.reduceLT, Int.reduceLE, Int.reduceEq, Int.reduceNe, Int.reduceBEq, Int.reduceBNe, Int.reduceToNat, Int.reduceGT, Int.reduceGE, ↓reduceIte, decide_true, decide_false, eq_self, Nat.mul_one, Nat.zero_mul, Nat.one_mul, Int.le_refl, Nat.le_refl, Int.cast_ofNat_Int, h]
          refine hQ1 _ _ ?_
          simp (decide := true) (maxSteps := 4000000) only [go_sem, Nat.reduceAdd, Nat.reduceSub, Nat.reduceMul, Nat.reduceDiv, Nat.reduceMod, Nat.reduceLT, Nat.reduceLeDiff, Nat.reduceEqDiff, Nat.reduceBEq, Nat.reduceBNe, Nat.reduceGT, Int.reduceAdd, Int.reduceSub, Int.reduceMul, Int.reduceNeg, Int.reduceLT, Int.reduceLE, Int.reduceEq, Int.reduceNe, Int.reduceBEq, Int.reduceBNe, Int.reduceToNat, Int.reduceGT, Int.reduceGE, ↓reduceIte, decide_true, decide_false, eq_self, Nat.mul_one, Nat.zero_mul, Nat.one_mul, Int.le_refl, Nat.le_refl, Int.cast_ofNat_Int, hS0, bS, s1, no1, nS]
          refine pwpC_loopU (A := { i : Nat // i ≤ out.length }) [0, 2, 4, 7, 8, 13, 14] (fun i => [(16, .t (.int .i64 i.1)), (15, .t (.bool (anyTo (fun s => inB c s.lo s.hi) out i.1)))]) (fun _ => []) (fun i => out.length - i.1) ⟨0, by omega⟩ (by decide) (fun _ => by rfl) ?_ fun Q2 hQ2 ⟨i, hi⟩ I2 hI2 => ?_
          · simp (decide := true) (maxSteps := 4000000) only [go_sem, Nat.reduceAdd, Nat.reduceSub, Nat.reduceMul, Nat.reduceDiv, Nat.reduceMod, Nat.reduceLT, Nat.reduceLeDiff, Nat.reduceEqDiff, Nat.reduceBEq, Nat.reduceBNe, Nat.reduceGT, Int.reduceAdd, Int.reduceSub, Int.reduceMul, Int.reduceNeg, Int.reduceLT, Int.reduceLE, Int.reduceEq, Int.reduceNe, Int.reduceBEq, Int.reduceBNe, Int.reduceToNat, Int.reduceGT, Int.reduceGE, ↓reduceIte, decide_true, decide_false, eq_self, Nat.mul_one, Nat.zero_mul, Nat.one_mul, Int.le_refl, Nat.le_refl, Int.cast_ofNat_Int, anyTo, List.take_zero, List.any_nil]
            first | done | exact ⟨rfl, rfl⟩ | rfl
          · by_cases hlt2 : (i : Int) < out.length
            · obtain ⟨s, hs⟩ := get_lt hlt2
              have hds := flat_at Span.cs (n := 2) (fun _ => rfl) hs
              have hc2 : IntKind.i64.wrap (i + 1) = ((i + 1 : Nat) : Int) := by rw [wrap_in (by omega) (by omega)]; omega
              have hany := anyTo_succ (fun s => inB c s.lo s.hi) hs
              have hb1 := hob s (List.mem_of_getElem? hs)
              have hb2 : ¬ s.lo > s.hi := by omega
              rcases Nat.eq_zero_or_pos i with hi0 | hi0
              · subst hi0
                have hlt20 : (0 : Int) < out.length := by omega
                cases hx1 : anyTo (fun s => inB c s.lo s.hi) out 0 <;> cases hx2 : inB c s.lo s.hi <;> rw [hx1, hx2] at hany <;> simp only [Bool.or_true, Bool.or_false, Bool.or_self] at hany
                all_goals
                  simp (decide := true) (maxSteps := 4000000) only [go_sem, Nat.reduceAdd, Nat.reduceSub, Nat.reduceMul, Nat.reduceDiv, Nat.reduceMod, Nat.reduceLT, Nat.reduceLeDiff, Nat.reduceEqDiff, Nat.reduceBEq, Nat.reduceBNe, Nat.reduceGT, Int.reduceAdd, Int.reduceSub, Int.reduceMul, Int.reduceNeg, Int.reduceLT, Int.reduceLE, Int.reduceEq, Int.reduceNe, Int.reduceBEq, Int.reduceBNe, Int.reduceToNat, Int.reduceGT, Int.reduceGE, ↓reduceIte, decide_true, decide_false, eq_self, Nat.mul_one, Nat.zero_mul, Nat.one_mul, Int.le_refl, Nat.le_refl, Int.cast_ofNat_Int, hlt20, hx1, hx2, hds, Span.cs, hb2, Int.toNat_natCast]
                  refine hI2 _ ⟨0 + 1, by omega⟩ (by simp only; omega) ?_
                  simp (decide := true) (maxSteps := 4000000) only [go_sem, Nat.reduceAdd, Nat.reduceSub, Nat.reduceMul, Nat.reduceDiv, Nat.reduceMod, Nat.reduceLT, Nat.reduceLeDiff, Nat.reduceEqDiff, Nat.reduceBEq, Nat.reduceBNe, Nat.reduceGT, Int.reduceAdd, Int.reduceSub, Int.reduceMul, Int.reduceNeg, Int.reduceLT, Int.reduceLE, Int.reduceEq, Int.reduceNe, Int.reduceBEq, Int.reduceBNe, Int.reduceToNat, Int.reduceGT, Int.reduceGE, ↓reduceIte, decide_true, decide_false, eq_self, Nat.mul_one, Nat.zero_mul, Nat.one_mul, Int.le_refl, Nat.le_refl, Int.cast_ofNat_Int, hany]
              · obtain ⟨i', rfl⟩ : ∃ i', i = i' + 1 := ⟨i - 1, by omega⟩
                have hlt3 : (i' : Int) < out.length := by omega
                obtain ⟨t, ht⟩ := get_lt hlt3
                have hdt := flat_at Span.cs (n := 2) (fun _ => rfl) ht
                have wi : IntKind.i64.wrap (((i' + 1 : Nat) : Int) - 1) = (i' : Int) := by rw [wrap_in (by omega) (by omega)]; omega
                have hi0' : ((i' + 1 : Nat) : Int) > 0 := by omega
                have hb3 := hob t (List.mem_of_getElem? ht)
                have wt : IntKind.i64.wrap (t.hi + 1) = t.hi + 1 := wrap_in (by omega) (by omega)
                have hsep : ¬ t.hi + 1 ≥ s.lo := by
                  have := List.pairwise_iff_getElem.1 hpw i' (i' + 1) (by omega) (by omega) (by omega)
                  have g1 := (List.getElem?_eq_some_iff.1 ht).2
                  have g2 := (List.getElem?_eq_some_iff.1 hs).2
                  rw [g1, g2] at this
                  omega
                cases hx1 : anyTo (fun s => inB c s.lo s.hi) out (i' + 1) <;> cases hx2 : inB c s.lo s.hi <;> rw [hx1, hx2] at hany <;> simp only [Bool.or_true, Bool.or_false, Bool.or_self] at hany
                all_goals
                  simp (decide := true) (maxSteps := 4000000) only [go_sem, Nat.reduceAdd, Nat.reduceSub, Nat.reduceMul, Nat.reduceDiv, Nat.reduceMod, Nat.reduceLT, Nat.reduceLeDiff, Nat.reduceEqDiff, Nat.reduceBEq, Nat.reduceBNe, Nat.reduceGT, Int.reduceAdd, Int.reduceSub, Int.reduceMul, Int.reduceNeg, Int.reduceLT, Int.reduceLE, Int.reduceEq, Int.reduceNe, Int.reduceBEq, Int.reduceBNe, Int.reduceToNat, Int.reduceGT, Int.reduceGE, ↓reduceIte, decide_true, decide_false, eq_self, Nat.mul_one, Nat.zero_mul, Nat.one_mul, Int.le_refl, Nat.le_refl, Int.cast_ofNat_Int, hlt2, hlt3, hx1, hx2, hds, hdt, Span.cs, hb2, wi, hi0', wt, hsep, Int.toNat_natCast]
                  refine hI2 _ ⟨i' + 1 + 1, by omega⟩ (by simp only; omega) ?_
                  simp (decide := true) (maxSteps := 4000000) only [go_sem, Nat.reduceAdd, Nat.reduceSub, Nat.reduceMul, Nat.reduceDiv, Nat.reduceMod, Nat.reduceLT, Nat.reduceLeDiff, Nat.reduceEqDiff, Nat.reduceBEq, Nat.reduceBNe, Nat.reduceGT, Int.reduceAdd, Int.reduceSub, Int.reduceMul, Int.reduceNeg, Int.reduceLT, Int.reduceLE, Int.reduceEq, Int.reduceNe, Int.reduceBEq, Int.reduceBNe, Int.reduceToNat, Int.reduceGT, Int.reduceGE, ↓reduceIte, decide_true, decide_false, eq_self, Nat.mul_one, Nat.zero_mul, Nat.one_mul, Int.le_refl, Nat.le_refl, Int.cast_ofNat_Int, hc2, hany]
            · have hie : i = out.length := by omega
              subst hie
              simp (decide := true) (maxSteps := 4000000) only [go_sem, Nat.reduceAdd, Nat.reduceSub, Nat.reduceMul, Nat.reduceDiv, Nat.reduceMod, Nat.reduceLT, Nat.reduceLeDiff, Nat.reduceEqDiff, Nat.reduceBEq, Nat.reduceBNe, Nat.reduceGT, Int.reduceAdd, Int.reduceSub, Int.reduceMul, Int.reduceNeg, Int.reduceLT, Int.reduceLE, Int.reduceEq, Int.reduceNe, Int.reduceBEq, Int.reduceBNe, Int.reduceToNat, Int.reduceGT, Int.reduceGE, ↓reduceIte, decide_true, decide_false, eq_self, Nat.mul_one, Nat.zero_mul, Nat.one_mul, Int.le_refl, Nat.le_refl, Int.cast_ofNat_Int, hlt2, hinT, hS0, hm, hj, hjn, hjn', hj0, lcS, tkS, ljS, bjS, s2, no2, Int.toNat_natCast, Nat.zero_mul, List.drop_zero, Nat.sub_zero]
              refine hQ2 _ _ ?_
              simp (decide := true) (maxSteps := 4000000) only [go_sem, Nat.reduceAdd, Nat.reduceSub, Nat.reduceMul, Nat.reduceDiv, Nat.reduceMod, Nat.reduceLT, Nat.reduceLeDiff, Nat.reduceEqDiff, Nat.reduceBEq, Nat.reduceBNe, Nat.reduceGT, Int.reduceAdd, Int.reduceSub, Int.reduceMul, Int.reduceNeg, Int.reduceLT, Int.reduceLE, Int.reduceEq, Int.reduceNe, Int.reduceBEq, Int.reduceBNe, Int.reduceToNat, Int.reduceGT, Int.reduceGE, ↓reduceIte, decide_true, decide_false, eq_self, Nat.mul_one, Nat.zero_mul, Nat.one_mul, Int.le_refl, Nat.le_refl, Int.cast_ofNat_Int, hS0, hm, hj, hjn, hjn', hj0, lcS, tkS, ljS, bjS, s2, no2, Int.toNat_natCast, Nat.zero_mul, List.drop_zero, Nat.sub_zero]
              refine pwpC_loopU (A := { i : Nat // i ≤ out.length }) [4, 7, 8, 13, 14, 17] (fun i => [(19, .t (.int .i64 i.1))]) (fun _ => []) (fun i => out.length - i.1) ⟨0, by omega⟩ (by decide) (fun _ => by rfl) ?_ fun Q3 hQ3 ⟨i, hi⟩ I3 hI3 => ?_
              · simp (decide := true) (maxSteps := 4000000) only [go_sem, Nat.reduceAdd, Nat.reduceSub, Nat.reduceMul, Nat.reduceDiv, Nat.reduceMod, Nat.reduceLT, Nat.reduceLeDiff, Nat.reduceEqDiff, Nat.reduceBEq, Nat.reduceBNe, Nat.reduceGT, Int.reduceAdd, Int.reduceSub, Int.reduceMul, Int.reduceNeg, Int.reduceLT, Int.reduceLE, Int.reduceEq, Int.reduceNe, Int.reduceBEq, Int.reduceBNe, Int.reduceToNat, Int.reduceGT, Int.reduceGE, ↓reduceIte, decide_true, decide_false, eq_self, Nat.mul_one, Nat.zero_mul, Nat.one_mul, Int.le_refl, Nat.le_refl, Int.cast_ofNat_Int]
              · by_cases hlt3 : (i : Int) < out.length
                · obtain ⟨s, hs⟩ := get_lt hlt3
                  have hds := flat_at Span.cs (n := 2) (fun _ => rfl) hs
                  have hc3 : IntKind.i64.wrap (i + 1) = ((i + 1 : Nat) : Int) := by rw [wrap_in (by omega) (by omega)]; omega
                  have hheld : anyTo (fun t => decide (t.lo ≤ s.lo) && decide (s.hi ≤ t.hi)) less less.length = true := anyTo_all (by
                    obtain ⟨t, ht, p1, p2⟩ := hcov s (List.mem_of_getElem? hs)
                    exact ⟨t, ht, by simp [p1, p2]⟩)
                  simp (decide := true) (maxSteps := 4000000) only [go_sem, Nat.reduceAdd, Nat.reduceSub, Nat.reduceMul, Nat.reduceDiv, Nat.reduceMod, Nat.reduceLT, Nat.reduceLeDiff, Nat.reduceEqDiff, Nat.reduceBEq, Nat.reduceBNe, Nat.reduceGT, Int.reduceAdd, Int.reduceSub, Int.reduceMul, Int.reduceNeg, Int.reduceLT, Int.reduceLE, Int.reduceEq, Int.reduceNe, Int.reduceBEq, Int.reduceBNe, Int.reduceToNat, Int.reduceGT, Int.reduceGE, ↓reduceIte, decide_true, decide_false, eq_self, Nat.mul_one, Nat.zero_mul, Nat.one_mul, Int.le_refl, Nat.le_refl, Int.cast_ofNat_Int, hlt3]
                  refine pwpC_loopU (A := { k : Nat // k ≤ less.length }) [4, 7, 8, 13, 14, 17, 19] (fun k => [(21, .t (.int .i64 k.1)), (20, .t (.bool (anyTo (fun t => decide (t.lo ≤ s.lo) && decide (s.hi ≤ t.hi)) less k.1)))]) (fun _ => []) (fun k => less.length - k.1) ⟨0, by omega⟩ (by decide) (fun _ => by rfl) ?_ fun Q4 hQ4 ⟨k, hk⟩ I4 hI4 => ?_
                  · simp (decide := true) (maxSteps := 4000000) only [go_sem, Nat.reduceAdd, Nat.reduceSub, Nat.reduceMul, Nat.reduceDiv, Nat.reduceMod, Nat.reduceLT, Nat.reduceLeDiff, Nat.reduceEqDiff, Nat.reduceBEq, Nat.reduceBNe, Nat.reduceGT, Int.reduceAdd, Int.reduceSub, Int.reduceMul, Int.reduceNeg, Int.reduceLT, Int.reduceLE, Int.reduceEq, Int.reduceNe, Int.reduceBEq, Int.reduceBNe, Int.reduceToNat, Int.reduceGT, Int.reduceGE, ↓reduceIte, decide_true, decide_false, eq_self, Nat.mul_one, Nat.zero_mul, Nat.one_mul, Int.le_refl, Nat.le_refl, Int.cast_ofNat_Int, anyTo, List.take_zero, List.any_nil]
                    first | done | exact ⟨rfl, rfl⟩ | rfl
                  · by_cases hlt4 : (k : Int) < less.length
                    · obtain ⟨t, ht⟩ := get_lt hlt4
                      have hdt := flat_at Span.cs (n := 2) (fun _ => rfl) ht
                      have hc4 : IntKind.i64.wrap (k + 1) = ((k + 1 : Nat) : Int) := by rw [wrap_in (by omega) (by omega)]; omega
                      have hany := anyTo_succ (fun t => decide (t.lo ≤ s.lo) && decide (s.hi ≤ t.hi)) ht
                      by_cases p1 : t.lo ≤ s.lo <;> by_cases p2 : s.hi ≤ t.hi <;> cases hx : anyTo (fun t => decide (t.lo ≤ s.lo) && decide (s.hi ≤ t.hi)) less k <;> rw [hx] at hany <;> simp only [p1, p2, decide_true, decide_false, Bool.or_true, Bool.or_false, Bool.or_self, Bool.and_self, Bool.and_true, Bool.and_false, Bool.true_and, Bool.false_and] at hany
                      all_goals
                        simp (decide := true) (maxSteps := 4000000) only [go_sem, Nat.reduceAdd, Nat.reduceSub, Nat.reduceMul, Nat.reduceDiv, Nat.reduceMod, Nat.reduceLT, Nat.reduceLeDiff, Nat.reduceEqDiff, Nat.reduceBEq, Nat.reduceBNe, Nat.reduceGT, Int.reduceAdd, Int.reduceSub, Int.reduceMul, Int.reduceNeg, Int.reduceLT, Int.reduceLE, Int.reduceEq, Int.reduceNe, Int.reduceBEq, Int.reduceBNe, Int.reduceToNat, Int.reduceGT, Int.reduceGE, ↓reduceIte, decide_true, decide_false, eq_self, Nat.mul_one, Nat.zero_mul, Nat.one_mul, Int.le_refl, Nat.le_refl, Int.cast_ofNat_Int, hlt3, hlt4, hds, hdt, Span.cs, hx, p1, p2, Int.toNat_natCast]
                        refine hI4 _ ⟨k + 1, by omega⟩ (by simp only; omega) ?_
                        simp (decide := true) (maxSteps := 4000000) only [go_sem, Nat.reduceAdd, Nat.reduceSub, Nat.reduceMul, Nat.reduceDiv, Nat.reduceMod, Nat.reduceLT, Nat.reduceLeDiff, Nat.reduceEqDiff, Nat.reduceBEq, Nat.reduceBNe, Nat.reduceGT, Int.reduceAdd, Int.reduceSub, Int.reduceMul, Int.reduceNeg, Int.reduceLT, Int.reduceLE, Int.reduceEq, Int.reduceNe, Int.reduceBEq, Int.reduceBNe, Int.reduceToNat, Int.reduceGT, Int.reduceGE, ↓reduceIte, decide_true, decide_false, eq_self, Nat.mul_one, Nat.zero_mul, Nat.one_mul, Int.le_refl, Nat.le_refl, Int.cast_ofNat_Int, hc4, hany]
                    · have hke : k = less.length := by omega
                      subst hke
                      simp (decide := true) (maxSteps := 4000000) only [go_sem, Nat.reduceAdd, Nat.reduceSub, Nat.reduceMul, Nat.reduceDiv, Nat.reduceMod, Nat.reduceLT, Nat.reduceLeDiff, Nat.reduceEqDiff, Nat.reduceBEq, Nat.reduceBNe, Nat.reduceGT, Int.reduceAdd, Int.reduceSub, Int.reduceMul, Int.reduceNeg, Int.reduceLT, Int.reduceLE, Int.reduceEq, Int.reduceNe, Int.reduceBEq, Int.reduceBNe, Int.reduceToNat, Int.reduceGT, Int.reduceGE, ↓reduceIte, decide_true, decide_false, eq_self, Nat.mul_one, Nat.zero_mul, Nat.one_mul, Int.le_refl, Nat.le_refl, Int.cast_ofNat_Int, hlt4, hheld]
                      refine hQ4 _ _ ?_
                      simp (decide := true) (maxSteps := 4000000) only [go_sem, Nat.reduceAdd, Nat.reduceSub, Nat.reduceMul, Nat.reduceDiv, Nat.reduceMod, Nat.reduceLT, Nat.reduceLeDiff, Nat.reduceEqDiff, Nat.reduceBEq, Nat.reduceBNe, Nat.reduceGT, Int.reduceAdd, Int.reduceSub, Int.reduceMul, Int.reduceNeg, Int.reduceLT, Int.reduceLE, Int.reduceEq, Int.reduceNe, Int.reduceBEq, Int.reduceBNe, Int.reduceToNat, Int.reduceGT, Int.reduceGE, ↓reduceIte, decide_true, decide_false, eq_self, Nat.mul_one, Nat.zero_mul, Nat.one_mul, Int.le_refl, Nat.le_refl, Int.cast_ofNat_Int, hheld]
                      refine hI3 _ ⟨i + 1, by omega⟩ (by simp only; omega) ?_
                      simp (decide := true) (maxSteps := 4000000) only [go_sem, Nat.reduceAdd, Nat.reduceSub, Nat.reduceMul, Nat.reduceDiv, Nat.reduceMod, Nat.reduceLT, Nat.reduceLeDiff, Nat.reduceEqDiff, Nat.reduceBEq, Nat.reduceBNe, Nat.reduceGT, Int.reduceAdd, Int.reduceSub, Int.reduceMul, Int.reduceNeg, Int.reduceLT, Int.reduceLE, Int.reduceEq, Int.reduceNe, Int.reduceBEq, Int.reduceBNe, Int.reduceToNat, Int.reduceGT, Int.reduceGE, ↓reduceIte, decide_true, decide_false, eq_self, Nat.mul_one, Nat.zero_mul, Nat.one_mul, Int.le_refl, Nat.le_refl, Int.cast_ofNat_Int, hc3]
                · have hie : i = out.length := by omega
                  subst hie
                  simp (decide := true) (maxSteps := 4000000) only [go_sem, Nat.reduceAdd, Nat.reduceSub, Nat.reduceMul, Nat.reduceDiv, Nat.reduceMod, Nat.reduceLT, Nat.reduceLeDiff, Nat.reduceEqDiff, Nat.reduceBEq, Nat.reduceBNe, Nat.reduceGT, Int.reduceAdd, Int.reduceSub, Int.reduceMul, Int.reduceNeg, Int.reduceLT, Int.reduceLE, Int.reduceEq, Int.reduceNe, Int.reduceBEq, Int.reduceBNe, Int.reduceToNat, Int.reduceGT, Int.reduceGE, ↓reduceIte, decide_true, decide_false, eq_self, Nat.mul_one, Nat.zero_mul, Nat.one_mul, Int.le_refl, Nat.le_refl, Int.cast_ofNat_Int, hlt3]
                  refine hQ3 _ _ ?_
                  simp (decide := true) (maxSteps := 4000000) only [go_sem, Nat.reduceAdd, Nat.reduceSub, Nat.reduceMul, Nat.reduceDiv, Nat.reduceMod, Nat.reduceLT, Nat.reduceLeDiff, Nat.reduceEqDiff, Nat.reduceBEq, Nat.reduceBNe, Nat.reduceGT, Int.reduceAdd, Int.reduceSub, Int.reduceMul, Int.reduceNeg, Int.reduceLT, Int.reduceLE, Int.reduceEq, Int.reduceNe, Int.reduceBEq, Int.reduceBNe, Int.reduceToNat, Int.reduceGT, Int.reduceGE, ↓reduceIte, decide_true, decide_false, eq_self, Nat.mul_one, Nat.zero_mul, Nat.one_mul, Int.le_refl, Nat.le_refl, Int.cast_ofNat_Int]
end Go.Proofs.Ytcjcnmpecmbdeaa
