/- What the claim leans on, text 6. -/
import Derived.Test.YtcjcnmpecmbdeaaC5
set_option linter.unusedSimpArgs false
set_option linter.unusedVariables false

/- Part Gr. -/
namespace Go.Oc
open Go Go.Pm
def mOk (n m : Int) (o : Ob) (k : Nat) : Bool := (inB o.f 0 (n - 1) && inB o.s 0 (n - 1) && (o.f != o.s)) && ([o.a, o.b, o.c].take k).all fun t => inB t 0 (m - 1)
theorem mOk_succ (n m : Int) (o : Ob) {k : Nat} {t : Int} (h : [o.a, o.b, o.c][k]? = some t) : mOk n m o (k + 1) = (mOk n m o k && inB t 0 (m - 1)) := by
  unfold mOk; rw [take_all _ h, ← Bool.and_assoc]
theorem mOk_all (n m : Int) (o : Ob) : mOk n m o 3 = obOk n m o := by simp [mOk, obOk, Bool.and_assoc]
theorem mOk_no {n m : Int} {o : Ob} {k : Nat} (h : mOk n m o k = false) : obOk n m o = false := by
  rw [← mOk_all]
  unfold mOk at h ⊢
  rw [Bool.and_eq_false_iff] at h ⊢
  rcases h with h | h
  · exact .inl h
  · exact .inr (all_of_take (k := k) (by
      rw [show List.take 3 [o.a, o.b, o.c] = [o.a, o.b, o.c] from rfl]; exact h))
def pwW (n1 n2 f m b : Int) : Int := IntKind.i64.wrap (IntKind.i64.wrap (n1 * IntKind.i64.wrap (f - m)) + IntKind.i64.wrap (n2 * IntKind.i64.wrap (m - b)))
/-- A truth in which each number is at an end. -/
def hiOf (o : Ob) (bits : Nat) (t : Nat) : Bool := ((t : Int) == o.f && bits.testBit 0) || ((t : Int) == o.s && bits.testBit 1)
def cIx (B : List Blank) (o : Ob) (bits k : Nat) : List Int := (List.range k).map fun (t : Nat) => endS (blankAt B t).i (hiOf o bits t)
def cCo (B : List Blank) (o : Ob) (bits k : Nat) : List Int := (List.range k).map fun (t : Nat) => endS (blankAt B t).c (hiOf o bits t)
def cCu (T : List Span) (bits k : Nat) : List Int := (List.range k).map fun (t : Nat) => endS (toolAt T t) (bits.testBit (2 + t))
theorem cIx_succ (B : List Blank) (o : Ob) (bits k : Nat) : cIx B o bits (k + 1) = cIx B o bits k ++ [endS (blankAt B k).i (hiOf o bits k)] := by unfold cIx; rw [List.range_succ, List.map_append]; rfl
theorem cCo_succ (B : List Blank) (o : Ob) (bits k : Nat) : cCo B o bits (k + 1) = cCo B o bits k ++ [endS (blankAt B k).c (hiOf o bits k)] := by unfold cCo; rw [List.range_succ, List.map_append]; rfl
theorem cCu_succ (T : List Span) (bits k : Nat) : cCu T bits (k + 1) = cCu T bits k ++ [endS (toolAt T k) (bits.testBit (2 + k))] := by unfold cCu; rw [List.range_succ, List.map_append]; rfl
theorem cIx_len (B : List Blank) (o : Ob) (bits k : Nat) : (cIx B o bits k).length = k := by simp [cIx]
theorem cCo_len (B : List Blank) (o : Ob) (bits k : Nat) : (cCo B o bits k).length = k := by simp [cCo]
theorem cCu_len (T : List Span) (bits k : Nat) : (cCu T bits k).length = k := by simp [cCu]
end Go.Oc
namespace Go.Proofs.Ytcjcnmpecmbdeaa
open Go.RowKit Go.Pm Go.Oc
set_option maxRecDepth 100000
set_option linter.unusedVariables false
set_option maxHeartbeats 4000000

theorem r4Wish_c (w : Want) : PCalls Try.prog 70 [w.t] (.bool (wantOk w)) := by
  refine pcalls_by Try.mixes spB3_ok (fn := Try.f70) Try.func70 rfl (by kernel_rfl) (by show 1 ≤ _; decide) ?_
  simp (decide := true) (maxSteps := 4000000) only [go_sem, Nat.reduceAdd, Nat.reduceSub, Nat.reduceMul, Nat.reduceDiv, Nat.reduceMod, Nat.reduceLT, Nat.reduceLeDiff, Nat.reduceEqDiff, Nat.reduceBEq, Nat.reduceBNe, Nat.reduceGT, Int.reduceAdd, Int.reduceSub, Int.reduceMul, Int.reduceNeg, Int.reduceLT, Int.reduceLE, Int.reduceEq, Int.reduceNe, Int.reduceBEq, Int.reduceBNe, Int.reduceToNat, Int.reduceGT, Int.reduceGE, ↓reduceIte, decide_true, decide_false, eq_self, Nat.mul_one, Nat.zero_mul, Nat.one_mul, Int.le_refl, Nat.le_refl, Int.cast_ofNat_Int, Try.f70, Want.t, wantOk]
theorem r4End_c (s : Span) (b : Bool) : PCalls Try.prog 110 [s.t, .bool b] (.int .i64 (endS s b)) := by
  refine pcalls_by Try.mixes noSpec_ok (fn := Try.f110) Try.func110 rfl (by kernel_rfl) (by show 2 ≤ _; decide) ?_
  cases b <;> simp (decide := true) (maxSteps := 4000000) only [go_sem, Nat.reduceAdd, Nat.reduceSub, Nat.reduceMul, Nat.reduceDiv, Nat.reduceMod, Nat.reduceLT, Nat.reduceLeDiff, Nat.reduceEqDiff, Nat.reduceBEq, Nat.reduceBNe, Nat.reduceGT, Int.reduceAdd, Int.reduceSub, Int.reduceMul, Int.reduceNeg, Int.reduceLT, Int.reduceLE, Int.reduceEq, Int.reduceNe, Int.reduceBEq, Int.reduceBNe, Int.reduceToNat, Int.reduceGT, Int.reduceGE, ↓reduceIte, decide_true, decide_false, eq_self, Nat.mul_one, Nat.zero_mul, Nat.one_mul, Int.le_refl, Nat.le_refl, Int.cast_ofNat_Int, Try.f110, Span.t, Span.cs, endS]
theorem r4Worst_c (c : Span) : PCalls Try.prog 94 [c.t] (.int .i64 (max (max c.lo (IntKind.i64.wrap (0 - c.lo))) (max c.hi (IntKind.i64.wrap (0 - c.hi))))) := by
  refine pcalls_by Try.mixes spB3_ok (fn := Try.f94) Try.func94 rfl (by kernel_rfl) (by show 1 ≤ _; decide) ?_
  simp (decide := true) (maxSteps := 4000000) only [go_sem, Nat.reduceAdd, Nat.reduceSub, Nat.reduceMul, Nat.reduceDiv, Nat.reduceMod, Nat.reduceLT, Nat.reduceLeDiff, Nat.reduceEqDiff, Nat.reduceBEq, Nat.reduceBNe, Nat.reduceGT, Int.reduceAdd, Int.reduceSub, Int.reduceMul, Int.reduceNeg, Int.reduceLT, Int.reduceLE, Int.reduceEq, Int.reduceNe, Int.reduceBEq, Int.reduceBNe, Int.reduceToNat, Int.reduceGT, Int.reduceGE, ↓reduceIte, decide_true, decide_false, eq_self, Nat.mul_one, Nat.zero_mul, Nat.one_mul, Int.le_refl, Nat.le_refl, Int.cast_ofNat_Int, Try.f94, Span.t, Span.cs]
noncomputable def rWish : List TV → Option TV
  | [.agg [.int .i64 a, .int .i64 b, .int .i64 c]] => some (.bool (wantOk ⟨⟨a, b⟩, c⟩))
  | _ => none
theorem rWish_ok : ∀ xs r, rWish xs = some r → PCalls Try.prog 70 xs r := by
  intro xs r h
  unfold rWish at h
  split at h
  · cases h; exact r4Wish_c ⟨⟨_, _⟩, _⟩
  · cases h
attribute [go_sem] rWish
noncomputable def rEnd : List TV → Option TV
  | [.agg [.int .i64 x, .int .i64 y], .bool b] => some (.int .i64 (endS ⟨x, y⟩ b))
  | _ => none
theorem rEnd_ok : ∀ xs r, rEnd xs = some r → PCalls Try.prog 110 xs r := by
  intro xs r h
  unfold rEnd at h
  split at h
  · cases h; exact r4End_c ⟨_, _⟩ _
  · cases h
attribute [go_sem] rEnd
noncomputable def rWorst : List TV → Option TV
  | [.agg [.int .i64 a, .int .i64 b]] => some (.int .i64 (max (max a (IntKind.i64.wrap (0 - a))) (max b (IntKind.i64.wrap (0 - b)))))
  | _ => none
theorem rWorst_ok : ∀ xs r, rWorst xs = some r → PCalls Try.prog 94 xs r := by
  intro xs r h
  unfold rWorst at h
  split at h
  · cases h; exact r4Worst_c ⟨_, _⟩
  · cases h
attribute [go_sem] rWorst
noncomputable def spR1 : Pm.Spec := (((spB3.one 19 glCheck).one 70 rWish).one 110 rEnd).one 94 rWorst
@[go_sem] theorem spR1_p (f : FuncId) (xs : List TV) : spR1.p f xs = Pm.Spec.p ((((spB3.one 19 glCheck).one 70 rWish).one 110 rEnd).one 94 rWorst) f xs := rfl
@[go_sem] theorem spR1_h (f : FuncId) (ps : List PV) (hl : List PO) : spR1.h f ps hl = Pm.Spec.h ((((spB3.one 19 glCheck).one 70 rWish).one 110 rEnd).one 94 rWorst) f ps hl := rfl
@[go_sem] theorem spR1_fz (f : FuncId) : spR1.fz f = Pm.Spec.fz ((((spB3.one 19 glCheck).one 70 rWish).one 110 rEnd).one 94 rWorst) f := rfl
@[go_sem] theorem spR1_fr (f : FuncId) : spR1.fr f = Pm.Spec.fr ((((spB3.one 19 glCheck).one 70 rWish).one 110 rEnd).one 94 rWorst) f := rfl
@[go_sem] theorem spR1_mu (t : TypeId) : spR1.mu t = Pm.Spec.mu ((((spB3.one 19 glCheck).one 70 rWish).one 110 rEnd).one 94 rWorst) t := rfl
theorem spR1_ok : SpecOk Try.prog spR1 := Spec.one_ok rWorst_ok (Spec.one_ok rEnd_ok (Spec.one_ok rWish_ok (Spec.one_ok r4Check_ok spB3_ok)))

theorem r4Made_c {B : List Blank} {T : List Span} {sB sT : TV} (hB : IsRow Blank.cs sB B) (hT : IsRow Span.cs sT T) (hlB : B.length ≤ 5864062014806) (hlT : T.length ≤ 9000000000000) (o : Ob) : PCalls Try.prog 88 [.agg [sB, sT], o.t] (.bool (obOk B.length T.length o)) := by
  have w0 : IntKind.i64.wrap (-1) = -1 := rfl
  have w1 : IntKind.i64.wrap ((B.length : Int) - 1) = (B.length : Int) - 1 := wrap_in (by omega) (by omega)
  have w2 : IntKind.i64.wrap ((T.length : Int) - 1) = (T.length : Int) - 1 := wrap_in (by omega) (by omega)
  refine pcalls_by Try.mixes spR1_ok (fn := Try.f88) Try.func88 rfl (by kernel_rfl) (by show 2 ≤ _; decide) ?_
  by_cases hlb : 1 ≤ B.length
  · obtain ⟨fB, rfl⟩ := hB.ne hlb
    cases h1 : inB o.f 0 ((B.length : Int) - 1) <;> cases h2 : inB o.s 0 ((B.length : Int) - 1) <;> cases h3 : (o.f != o.s)
    case true.true.true =>
      have hz : mOk B.length T.length o 0 = true := by simp [mOk, h1, h2, h3]
      simp (decide := true) (maxSteps := 4000000) only [go_sem, Nat.reduceAdd, Nat.reduceSub, Nat.reduceMul, Nat.reduceDiv, Nat.reduceMod, Nat.reduceLT, Nat.reduceLeDiff, Nat.reduceEqDiff, Nat.reduceBEq, Nat.reduceBNe, Nat.reduceGT, Int.reduceAdd, Int.reduceSub, Int.reduceMul, Int.reduceNeg, Int.reduceLT, Int.reduceLE, Int.reduceEq, Int.reduceNe, Int.reduceBEq, Int.reduceBNe, Int.reduceToNat, Int.reduceGT, Int.reduceGE, ↓reduceIte, decide_true, decide_false, eq_self, Nat.mul_one, Nat.zero_mul, Nat.one_mul, Int.le_refl, Nat.le_refl, Int.cast_ofNat_Int, Try.f88, Ob.t, Ob.cs, w1, h1, h2, h3]
      refine pwpC_loopU (A := { k : Nat // k ≤ 3 }) [2, 3] (fun k => [(6, .t (.int .i64 k.1)), (5, .t (.bool (mOk B.length T.length o k.1)))]) (fun _ => []) (fun k => 3 - k.1) ⟨0, by omega⟩ (by decide) (fun _ => by rfl) ?_ fun Q1 hQ1 ⟨k, hk⟩ I1 hI1 => ?_
      · simp (decide := true) (maxSteps := 4000000) only [go_sem, Nat.reduceAdd, Nat.reduceSub, Nat.reduceMul, Nat.reduceDiv, Nat.reduceMod, Nat.reduceLT, Nat.reduceLeDiff, Nat.reduceEqDiff, Nat.reduceBEq, Nat.reduceBNe, Nat.reduceGT, Int.reduceAdd, Int.reduceSub, Int.reduceMul, Int.reduceNeg, Int.reduceLT, Int.reduceLE, Int.reduceEq, Int.reduceNe, Int.reduceBEq, Int.reduceBNe, Int.reduceToNat, Int.reduceGT, Int.reduceGE, ↓reduceIte, decide_true, decide_false, eq_self, Nat.mul_one, Nat.zero_mul, Nat.one_mul, Int.le_refl, Nat.le_refl, Int.cast_ofNat_Int, hz]
      · rcases (Bool.eq_false_or_eq_true (mOk B.length T.length o k)).symm with hok | hok
        · have hno := mOk_no hok
          simp (decide := true) (maxSteps := 4000000) only [go_sem, Nat.reduceAdd, Nat.reduceSub, Nat.reduceMul, Nat.reduceDiv, Nat.reduceMod, Nat.reduceLT, Nat.reduceLeDiff, Nat.reduceEqDiff, Nat.reduceBEq, Nat.reduceBNe, Nat.reduceGT, Int.reduceAdd, Int.reduceSub, Int.reduceMul, Int.reduceNeg, Int.reduceLT, Int.reduceLE, Int.reduceEq, Int.reduceNe, Int.reduceBEq, Int.reduceBNe, Int.reduceToNat, Int.reduceGT, Int.reduceGE, ↓reduceIte, decide_true, decide_false, eq_self, Nat.mul_one, Nat.zero_mul, Nat.one_mul, Int.le_refl, Nat.le_refl, Int.cast_ofNat_Int, hok]
          refine hQ1 _ _ ?_
          simp (decide := true) (maxSteps := 4000000) only [go_sem, Nat.reduceAdd, Nat.reduceSub, Nat.reduceMul, Nat.reduceDiv, Nat.reduceMod, Nat.reduceLT, Nat.reduceLeDiff, Nat.reduceEqDiff, Nat.reduceBEq, Nat.reduceBNe, Nat.reduceGT, Int.reduceAdd, Int.reduceSub, Int.reduceMul, Int.reduceNeg, Int.reduceLT, Int.reduceLE, Int.reduceEq, Int.reduceNe, Int.reduceBEq, Int.reduceBNe, Int.reduceToNat, Int.reduceGT, Int.reduceGE, ↓reduceIte, decide_true, decide_false, eq_self, Nat.mul_one, Nat.zero_mul, Nat.one_mul, Int.le_refl, Nat.le_refl, Int.cast_ofNat_Int, hno]
        · rcases (show k = 0 ∨ k = 1 ∨ k = 2 ∨ k = 3 by omega) with rfl | rfl | rfl | rfl
          · have hsu := mOk_succ (B.length : Int) T.length o (k := 0) rfl
            rw [hok, Bool.true_and] at hsu
            rcases hT with ⟨rfl, rfl⟩ | ⟨fT, rfl⟩
            · have h4 : inB o.a 0 (-1) = false := by unfold inB; simp; omega
              simp only [List.length_nil, Int.cast_ofNat_Int, Int.reduceSub, h4] at hsu hok
              simp (decide := true) (maxSteps := 4000000) only [go_sem, Nat.reduceAdd, Nat.reduceSub, Nat.reduceMul, Nat.reduceDiv, Nat.reduceMod, Nat.reduceLT, Nat.reduceLeDiff, Nat.reduceEqDiff, Nat.reduceBEq, Nat.reduceBNe, Nat.reduceGT, Int.reduceAdd, Int.reduceSub, Int.reduceMul, Int.reduceNeg, Int.reduceLT, Int.reduceLE, Int.reduceEq, Int.reduceNe, Int.reduceBEq, Int.reduceBNe, Int.reduceToNat, Int.reduceGT, Int.reduceGE, ↓reduceIte, decide_true, decide_false, eq_self, Nat.mul_one, Nat.zero_mul, Nat.one_mul, Int.le_refl, Nat.le_refl, Int.cast_ofNat_Int, hok, w0, h4, List.length_nil]
              refine hI1 _ ⟨1, by omega⟩ (by simp) ?_
              simp (decide := true) (maxSteps := 4000000) only [go_sem, Nat.reduceAdd, Nat.reduceSub, Nat.reduceMul, Nat.reduceDiv, Nat.reduceMod, Nat.reduceLT, Nat.reduceLeDiff, Nat.reduceEqDiff, Nat.reduceBEq, Nat.reduceBNe, Nat.reduceGT, Int.reduceAdd, Int.reduceSub, Int.reduceMul, Int.reduceNeg, Int.reduceLT, Int.reduceLE, Int.reduceEq, Int.reduceNe, Int.reduceBEq, Int.reduceBNe, Int.reduceToNat, Int.reduceGT, Int.reduceGE, ↓reduceIte, decide_true, decide_false, eq_self, Nat.mul_one, Nat.zero_mul, Nat.one_mul, Int.le_refl, Nat.le_refl, Int.cast_ofNat_Int, hsu, List.length_nil]
            · simp (decide := true) (maxSteps := 4000000) only [go_sem, Nat.reduceAdd, Nat.reduceSub, Nat.reduceMul, Nat.reduceDiv, Nat.reduceMod, Nat.reduceLT, Nat.reduceLeDiff, Nat.reduceEqDiff, Nat.reduceBEq, Nat.reduceBNe, Nat.reduceGT, Int.reduceAdd, Int.reduceSub, Int.reduceMul, Int.reduceNeg, Int.reduceLT, Int.reduceLE, Int.reduceEq, Int.reduceNe, Int.reduceBEq, Int.reduceBNe, Int.reduceToNat, Int.reduceGT, Int.reduceGE, ↓reduceIte, decide_true, decide_false, eq_self, Nat.mul_one, Nat.zero_mul, Nat.one_mul, Int.le_refl, Nat.le_refl, Int.cast_ofNat_Int, hok, w2]
              refine hI1 _ ⟨1, by omega⟩ (by simp) ?_
              simp (decide := true) (maxSteps := 4000000) only [go_sem, Nat.reduceAdd, Nat.reduceSub, Nat.reduceMul, Nat.reduceDiv, Nat.reduceMod, Nat.reduceLT, Nat.reduceLeDiff, Nat.reduceEqDiff, Nat.reduceBEq, Nat.reduceBNe, Nat.reduceGT, Int.reduceAdd, Int.reduceSub, Int.reduceMul, Int.reduceNeg, Int.reduceLT, Int.reduceLE, Int.reduceEq, Int.reduceNe, Int.reduceBEq, Int.reduceBNe, Int.reduceToNat, Int.reduceGT, Int.reduceGE, ↓reduceIte, decide_true, decide_false, eq_self, Nat.mul_one, Nat.zero_mul, Nat.one_mul, Int.le_refl, Nat.le_refl, Int.cast_ofNat_Int, hsu]
          · have hsu := mOk_succ (B.length : Int) T.length o (k := 1) rfl
            rw [hok, Bool.true_and] at hsu
            rcases hT with ⟨rfl, rfl⟩ | ⟨fT, rfl⟩
            · have h4 : inB o.b 0 (-1) = false := by unfold inB; simp; omega
              simp only [List.length_nil, Int.cast_ofNat_Int, Int.reduceSub, h4] at hsu hok
              simp (decide := true) (maxSteps := 4000000) only [go_sem, Nat.reduceAdd, Nat.reduceSub, Nat.reduceMul, Nat.reduceDiv, Nat.reduceMod, Nat.reduceLT, Nat.reduceLeDiff, Nat.reduceEqDiff, Nat.reduceBEq, Nat.reduceBNe, Nat.reduceGT, Int.reduceAdd, Int.reduceSub, Int.reduceMul, Int.reduceNeg, Int.reduceLT, Int.reduceLE, Int.reduceEq, Int.reduceNe, Int.reduceBEq, Int.reduceBNe, Int.reduceToNat, Int.reduceGT, Int.reduceGE, ↓reduceIte, decide_true, decide_false, eq_self, Nat.mul_one, Nat.zero_mul, Nat.one_mul, Int.le_refl, Nat.le_refl, Int.cast_ofNat_Int, hok, w0, h4, List.length_nil]
              refine hI1 _ ⟨2, by omega⟩ (by simp) ?_
              simp (decide := true) (maxSteps := 4000000) only [go_sem, Nat.reduceAdd, Nat.reduceSub, Nat.reduceMul, Nat.reduceDiv, Nat.reduceMod, Nat.reduceLT, Nat.reduceLeDiff, Nat.reduceEqDiff, Nat.reduceBEq, Nat.reduceBNe, Nat.reduceGT, Int.reduceAdd, Int.reduceSub, Int.reduceMul, Int.reduceNeg, Int.reduceLT, Int.reduceLE, Int.reduceEq, Int.reduceNe, Int.reduceBEq, Int.reduceBNe, Int.reduceToNat, Int.reduceGT, Int.reduceGE, ↓reduceIte, decide_true, decide_false, eq_self, Nat.mul_one, Nat.zero_mul, Nat.one_mul, Int.le_refl, Nat.le_refl, Int.cast_ofNat_Int, hsu, List.length_nil]
            · simp (decide := true) (maxSteps := 4000000) only [go_sem, Nat.reduceAdd, Nat.reduceSub, Nat.reduceMul, Nat.reduceDiv, Nat.reduceMod, Nat.reduceLT, Nat.reduceLeDiff, Nat.reduceEqDiff, Nat.reduceBEq, Nat.reduceBNe, Nat.reduceGT, Int.reduceAdd, Int.reduceSub, Int.reduceMul, Int.reduceNeg, Int.reduceLT, Int.reduceLE, Int.reduceEq, Int.reduceNe, Int.reduceBEq, Int.reduceBNe, Int.reduceToNat, Int.reduceGT, Int.reduceGE, ↓reduceIte, decide_true, decide_false, eq_self, Nat.mul_one, Nat.zero_mul, Nat.one_mul, Int.le_refl, Nat.le_refl, Int.cast_ofNat_Int, hok, w2]
              refine hI1 _ ⟨2, by omega⟩ (by simp) ?_
              simp (decide := true) (maxSteps := 4000000) only [go_sem, Nat.reduceAdd, Nat.reduceSub, Nat.reduceMul, Nat.reduceDiv, Nat.reduceMod, Nat.reduceLT, Nat.reduceLeDiff, Nat.reduceEqDiff, Nat.reduceBEq, Nat.reduceBNe, Nat.reduceGT, Int.reduceAdd, Int.reduceSub, Int.reduceMul, Int.reduceNeg, Int.reduceLT, Int.reduceLE, Int.reduceEq, Int.reduceNe, Int.reduceBEq, Int.reduceBNe, Int.reduceToNat, Int.reduceGT, Int.reduceGE, ↓reduceIte, decide_true, decide_false, eq_self, Nat.mul_one, Nat.zero_mul, Nat.one_mul, Int.le_refl, Nat.le_refl, Int.cast_ofNat_Int, hsu]
          · have hsu := mOk_succ (B.length : Int) T.length o (k := 2) rfl
            rw [hok, Bool.true_and] at hsu
            rcases hT with ⟨rfl, rfl⟩ | ⟨fT, rfl⟩
            · have h4 : inB o.c 0 (-1) = false := by unfold inB; simp; omega
              simp only [List.length_nil, Int.cast_ofNat_Int, Int.reduceSub, h4] at hsu hok
              simp (decide := true) (maxSteps := 4000000) only [go_sem, Nat.reduceAdd, Nat.reduceSub, Nat.reduceMul, Nat.reduceDiv, Nat.reduceMod, Nat.reduceLT, Nat.reduceLeDiff, Nat.reduceEqDiff, Nat.reduceBEq, Nat.reduceBNe, Nat.reduceGT, Int.reduceAdd, Int.reduceSub, Int.reduceMul, Int.reduceNeg, Int.reduceLT, Int.reduceLE, Int.reduceEq, Int.reduceNe, Int.reduceBEq, Int.reduceBNe, Int.reduceToNat, Int.reduceGT, Int.reduceGE, ↓reduceIte, decide_true, decide_false, eq_self, Nat.mul_one, Nat.zero_mul, Nat.one_mul, Int.le_refl, Nat.le_refl, Int.cast_ofNat_Int, hok, w0, h4, List.length_nil]
              refine hI1 _ ⟨3, by omega⟩ (by simp) ?_
              simp (decide := true) (maxSteps := 4000000) only [go_sem, Nat.reduceAdd, Nat.reduceSub, Nat.reduceMul, Nat.reduceDiv, Nat.reduceMod, Nat.reduceLT, Nat.reduceLeDiff, Nat.reduceEqDiff, Nat.reduceBEq, Nat.reduceBNe, Nat.reduceGT, Int.reduceAdd, Int.reduceSub, Int.reduceMul, Int.reduceNeg, Int.reduceLT, Int.reduceLE, Int.reduceEq, Int.reduceNe, Int.reduceBEq, Int.reduceBNe, Int.reduceToNat, Int.reduceGT, Int.reduceGE, ↓reduceIte, decide_true, decide_false, eq_self, Nat.mul_one, Nat.zero_mul, Nat.one_mul, Int.le_refl, Nat.le_refl, Int.cast_ofNat_Int, hsu, List.length_nil]
            · simp (decide := true) (maxSteps := 4000000) only [go_sem, Nat.reduceAdd, Nat.reduceSub, Nat.reduceMul, Nat.reduceDiv, Nat.reduceMod, Nat.reduceLT, Nat.reduceLeDiff, Nat.reduceEqDiff, Nat.reduceBEq, Nat.reduceBNe, Nat.reduceGT, Int.reduceAdd, Int.reduceSub, Int.reduceMul, Int.reduceNeg, Int.reduceLT, Int.reduceLE, Int.reduceEq, Int.reduceNe, Int.reduceBEq, Int.reduceBNe, Int.reduceToNat, Int.reduceGT, Int.reduceGE, ↓reduceIte, decide_true, decide_false, eq_self, Nat.mul_one, Nat.zero_mul, Nat.one_mul, Int.le_refl, Nat.le_refl, Int.cast_ofNat_Int, hok, w2]
              refine hI1 _ ⟨3, by omega⟩ (by simp) ?_
              simp (decide := true) (maxSteps := 4000000) only [go_sem, Nat.reduceAdd, Nat.reduceSub, Nat.reduceMul, Nat.reduceDiv, Nat.reduceMod, Nat.reduceLT, Nat.reduceLeDiff, Nat.reduceEqDiff, Nat.reduceBEq, Nat.reduceBNe, Nat.reduceGT, Int.reduceAdd, Int.reduceSub, Int.reduceMul, Int.reduceNeg, Int.reduceLT, Int.reduceLE, Int.reduceEq, Int.reduceNe, Int.reduceBEq, Int.reduceBNe, Int.reduceToNat, Int.reduceGT, Int.reduceGE, ↓reduceIte, decide_true, decide_false, eq_self, Nat.mul_one, Nat.zero_mul, Nat.one_mul, Int.le_refl, Nat.le_refl, Int.cast_ofNat_Int, hsu]
          · have hal := mOk_all (B.length : Int) T.length o
            rw [hok] at hal
            simp (decide := true) (maxSteps := 4000000) only [go_sem, Nat.reduceAdd, Nat.reduceSub, Nat.reduceMul, Nat.reduceDiv, Nat.reduceMod, Nat.reduceLT, Nat.reduceLeDiff, Nat.reduceEqDiff, Nat.reduceBEq, Nat.reduceBNe, Nat.reduceGT, Int.reduceAdd, Int.reduceSub, Int.reduceMul, Int.reduceNeg, Int.reduceLT, Int.reduceLE, Int.reduceEq, Int.reduceNe, Int.reduceBEq, Int.reduceBNe, Int.reduceToNat, Int.reduceGT, Int.reduceGE, ↓reduceIte, decide_true, decide_false, eq_self, Nat.mul_one, Nat.zero_mul, Nat.one_mul, Int.le_refl, Nat.le_refl, Int.cast_ofNat_Int, hok]
            refine hQ1 _ _ ?_
            simp (decide := true) (maxSteps := 4000000) only [go_sem, Nat.reduceAdd, Nat.reduceSub, Nat.reduceMul, Nat.reduceDiv, Nat.reduceMod, Nat.reduceLT, Nat.reduceLeDiff, Nat.reduceEqDiff, Nat.reduceBEq, Nat.reduceBNe, Nat.reduceGT, Int.reduceAdd, Int.reduceSub, Int.reduceMul, Int.reduceNeg, Int.reduceLT, Int.reduceLE, Int.reduceEq, Int.reduceNe, Int.reduceBEq, Int.reduceBNe, Int.reduceToNat, Int.reduceGT, Int.reduceGE, ↓reduceIte, decide_true, decide_false, eq_self, Nat.mul_one, Nat.zero_mul, Nat.one_mul, Int.le_refl, Nat.le_refl, Int.cast_ofNat_Int, hok, ← hal]
    all_goals
      have hno : obOk B.length T.length o = false := mOk_no (k := 0) (by simp [mOk, h1, h2, h3])
      simp (decide := true) (maxSteps := 4000000) only [go_sem, Nat.reduceAdd, Nat.reduceSub, Nat.reduceMul, Nat.reduceDiv, Nat.reduceMod, Nat.reduceLT, Nat.reduceLeDiff, Nat.reduceEqDiff, Nat.reduceBEq, Nat.reduceBNe, Nat.reduceGT, Int.reduceAdd, Int.reduceSub, Int.reduceMul, Int.reduceNeg, Int.reduceLT, Int.reduceLE, Int.reduceEq, Int.reduceNe, Int.reduceBEq, Int.reduceBNe, Int.reduceToNat, Int.reduceGT, Int.reduceGE, ↓reduceIte, decide_true, decide_false, eq_self, Nat.mul_one, Nat.zero_mul, Nat.one_mul, Int.le_refl, Nat.le_refl, Int.cast_ofNat_Int, Try.f88, Ob.t, Ob.cs, w1, h1, h2, h3]
      refine pwpC_loopU (A := Unit) [2, 3] (fun _ => [(6, .t (.int .i64 0)), (5, .t (.bool false))]) (fun _ => []) (fun _ => 0) () (by decide) (fun _ => by rfl) ?_ fun Q1 hQ1 _ I1 hI1 => ?_
      · simp (decide := true) (maxSteps := 4000000) only [go_sem, Nat.reduceAdd, Nat.reduceSub, Nat.reduceMul, Nat.reduceDiv, Nat.reduceMod, Nat.reduceLT, Nat.reduceLeDiff, Nat.reduceEqDiff, Nat.reduceBEq, Nat.reduceBNe, Nat.reduceGT, Int.reduceAdd, Int.reduceSub, Int.reduceMul, Int.reduceNeg, Int.reduceLT, Int.reduceLE, Int.reduceEq, Int.reduceNe, Int.reduceBEq, Int.reduceBNe, Int.reduceToNat, Int.reduceGT, Int.reduceGE, ↓reduceIte, decide_true, decide_false, eq_self, Nat.mul_one, Nat.zero_mul, Nat.one_mul, Int.le_refl, Nat.le_refl, Int.cast_ofNat_Int]
      · simp (decide := true) (maxSteps := 4000000) only [go_sem, Nat.reduceAdd, Nat.reduceSub, Nat.reduceMul, Nat.reduceDiv, Nat.reduceMod, Nat.reduceLT, Nat.reduceLeDiff, Nat.reduceEqDiff, Nat.reduceBEq, Nat.reduceBNe, Nat.reduceGT, Int.reduceAdd, Int.reduceSub, Int.reduceMul, Int.reduceNeg, Int.reduceLT, Int.reduceLE, Int.reduceEq, Int.reduceNe, Int.reduceBEq, Int.reduceBNe, Int.reduceToNat, Int.reduceGT, Int.reduceGE, ↓reduceIte, decide_true, decide_false, eq_self, Nat.mul_one, Nat.zero_mul, Nat.one_mul, Int.le_refl, Nat.le_refl, Int.cast_ofNat_Int]
        refine hQ1 _ _ ?_
        simp (decide := true) (maxSteps := 4000000) only [go_sem, Nat.reduceAdd, Nat.reduceSub, Nat.reduceMul, Nat.reduceDiv, Nat.reduceMod, Nat.reduceLT, Nat.reduceLeDiff, Nat.reduceEqDiff, Nat.reduceBEq, Nat.reduceBNe, Nat.reduceGT, Int.reduceAdd, Int.reduceSub, Int.reduceMul, Int.reduceNeg, Int.reduceLT, Int.reduceLE, Int.reduceEq, Int.reduceNe, Int.reduceBEq, Int.reduceBNe, Int.reduceToNat, Int.reduceGT, Int.reduceGE, ↓reduceIte, decide_true, decide_false, eq_self, Nat.mul_one, Nat.zero_mul, Nat.one_mul, Int.le_refl, Nat.le_refl, Int.cast_ofNat_Int, hno]
  · have hBn : B = [] := List.length_eq_zero_iff.1 (by omega)
    subst hBn
    have h1 : inB o.f 0 (-1) = false := by unfold inB; simp; omega
    have hno : obOk 0 T.length o = false := by unfold obOk; simp [h1]
    rcases hB with ⟨rfl, _⟩ | ⟨fB, rfl⟩
    all_goals
      simp (decide := true) (maxSteps := 4000000) only [go_sem, Nat.reduceAdd, Nat.reduceSub, Nat.reduceMul, Nat.reduceDiv, Nat.reduceMod, Nat.reduceLT, Nat.reduceLeDiff, Nat.reduceEqDiff, Nat.reduceBEq, Nat.reduceBNe, Nat.reduceGT, Int.reduceAdd, Int.reduceSub, Int.reduceMul, Int.reduceNeg, Int.reduceLT, Int.reduceLE, Int.reduceEq, Int.reduceNe, Int.reduceBEq, Int.reduceBNe, Int.reduceToNat, Int.reduceGT, Int.reduceGE, ↓reduceIte, decide_true, decide_false, eq_self, Nat.mul_one, Nat.zero_mul, Nat.one_mul, Int.le_refl, Nat.le_refl, Int.cast_ofNat_Int, Try.f88, Ob.t, Ob.cs, w0, h1, List.length_nil]
      refine pwpC_loopU (A := Unit) [2, 3] (fun _ => [(6, .t (.int .i64 0)), (5, .t (.bool false))]) (fun _ => []) (fun _ => 0) () (by decide) (fun _ => by rfl) ?_ fun Q1 hQ1 _ I1 hI1 => ?_
      · simp (decide := true) (maxSteps := 4000000) only [go_sem, Nat.reduceAdd, Nat.reduceSub, Nat.reduceMul, Nat.reduceDiv, Nat.reduceMod, Nat.reduceLT, Nat.reduceLeDiff, Nat.reduceEqDiff, Nat.reduceBEq, Nat.reduceBNe, Nat.reduceGT, Int.reduceAdd, Int.reduceSub, Int.reduceMul, Int.reduceNeg, Int.reduceLT, Int.reduceLE, Int.reduceEq, Int.reduceNe, Int.reduceBEq, Int.reduceBNe, Int.reduceToNat, Int.reduceGT, Int.reduceGE, ↓reduceIte, decide_true, decide_false, eq_self, Nat.mul_one, Nat.zero_mul, Nat.one_mul, Int.le_refl, Nat.le_refl, Int.cast_ofNat_Int]
      · simp (decide := true) (maxSteps := 4000000) only [go_sem, Nat.reduceAdd, Nat.reduceSub, Nat.reduceMul, Nat.reduceDiv, Nat.reduceMod, Nat.reduceLT, Nat.reduceLeDiff, Nat.reduceEqDiff, Nat.reduceBEq, Nat.reduceBNe, Nat.reduceGT, Int.reduceAdd, Int.reduceSub, Int.reduceMul, Int.reduceNeg, Int.reduceLT, Int.reduceLE, Int.reduceEq, Int.reduceNe, Int.reduceBEq, Int.reduceBNe, Int.reduceToNat, Int.reduceGT, Int.reduceGE, ↓reduceIte, decide_true, decide_false, eq_self, Nat.mul_one, Nat.zero_mul, Nat.one_mul, Int.le_refl, Nat.le_refl, Int.cast_ofNat_Int]
        refine hQ1 _ _ ?_
        simp (decide := true) (maxSteps := 4000000) only [go_sem, Nat.reduceAdd, Nat.reduceSub, Nat.reduceMul, Nat.reduceDiv, Nat.reduceMod, Nat.reduceLT, Nat.reduceLeDiff, Nat.reduceEqDiff, Nat.reduceBEq, Nat.reduceBNe, Nat.reduceGT, Int.reduceAdd, Int.reduceSub, Int.reduceMul, Int.reduceNeg, Int.reduceLT, Int.reduceLE, Int.reduceEq, Int.reduceNe, Int.reduceBEq, Int.reduceBNe, Int.reduceToNat, Int.reduceGT, Int.reduceGE, ↓reduceIte, decide_true, decide_false, eq_self, Nat.mul_one, Nat.zero_mul, Nat.one_mul, Int.le_refl, Nat.le_refl, Int.cast_ofNat_Int, hno]
noncomputable def rMade : List TV → Option TV := glIsOb
theorem rMade_ok : ∀ xs r, glIsOb xs = some r → PCalls Try.prog 88 xs r := by
  intro xs r h
  unfold glIsOb at h
  split at h
  · split at h
    · rename_i B T hB hT
      split at h
      · rename_i hc; cases h
        exact r4Made_c (rowL_some (un := unBlanks) rfl (@unBlanks_some) hB) (rowL_some (un := unSpans) rfl (@unSpans_some) hT) hc.1 hc.2 ⟨_, _, _, _, _⟩
      · cases h
    · cases h
  · cases h
noncomputable def spR2 : Pm.Spec := spR1.one 88 glIsOb
@[go_sem] theorem spR2_p (f : FuncId) (xs : List TV) : spR2.p f xs = Pm.Spec.p (spR1.one 88 glIsOb) f xs := rfl
@[go_sem] theorem spR2_h (f : FuncId) (ps : List PV) (hl : List PO) : spR2.h f ps hl = Pm.Spec.h (spR1.one 88 glIsOb) f ps hl := rfl
@[go_sem] theorem spR2_fz (f : FuncId) : spR2.fz f = Pm.Spec.fz (spR1.one 88 glIsOb) f := rfl
@[go_sem] theorem spR2_fr (f : FuncId) : spR2.fr f = Pm.Spec.fr (spR1.one 88 glIsOb) f := rfl
@[go_sem] theorem spR2_mu (t : TypeId) : spR2.mu t = Pm.Spec.mu (spR1.one 88 glIsOb) t := rfl
theorem spR2_ok : SpecOk Try.prog spR2 := Spec.one_ok rMade_ok spR1_ok
theorem r4Asked_c {B : List Blank} {T : List Span} {sB sT : TV} (hB : IsRow Blank.cs sB B) (hT : IsRow Span.cs sT T) (hlB : B.length ≤ 5864062014806) (hlT : T.length ≤ 9000000000000) (w : Want) (o : Ob) : PCalls Try.prog 58 [.agg [sB, sT], w.t, o.t] (.int .i64 (askedG B T w o)) := by
  have u1 : unBlanks [] = some [] := rfl
  have u2 : unSpans [] = some [] := rfl
  refine pcalls_by Try.mixes spR2_ok (fn := Try.f58) Try.func58 rfl (by kernel_rfl) (by show 3 ≤ _; decide) ?_
  unfold askedG
  cases hs : stockOk B T with
  | false => rcases hB with ⟨rfl, rfl⟩ | ⟨fB, rfl⟩ <;> rcases hT with ⟨rfl, rfl⟩ | ⟨fT, rfl⟩ <;> simp (decide := true) (maxSteps := 4000000) only [go_sem, Nat.reduceAdd, Nat.reduceSub, Nat.reduceMul, Nat.reduceDiv, Nat.reduceMod, Nat.reduceLT, Nat.reduceLeDiff, Nat.reduceEqDiff, Nat.reduceBEq, Nat.reduceBNe, Nat.reduceGT, Int.reduceAdd, Int.reduceSub, Int.reduceMul, Int.reduceNeg, Int.reduceLT, Int.reduceLE, Int.reduceEq, Int.reduceNe, Int.reduceBEq, Int.reduceBNe, Int.reduceToNat, Int.reduceGT, Int.reduceGE, ↓reduceIte, decide_true, decide_false, eq_self, Nat.mul_one, Nat.zero_mul, Nat.one_mul, Int.le_refl, Nat.le_refl, Int.cast_ofNat_Int, Try.f58, Ob.t, Ob.cs, Want.t, u1, u2, hlB, hlT, hs, List.length_nil]
  | true =>
    have hs' := stockOk_iff.1 hs
    obtain ⟨fB, rfl⟩ := hB.ne (by omega)
    obtain ⟨fT, rfl⟩ := hT.ne (by omega)
    cases hw : wantOk w <;> cases ho : obOk B.length T.length o <;> simp (decide := true) (maxSteps := 4000000) only [go_sem, Nat.reduceAdd, Nat.reduceSub, Nat.reduceMul, Nat.reduceDiv, Nat.reduceMod, Nat.reduceLT, Nat.reduceLeDiff, Nat.reduceEqDiff, Nat.reduceBEq, Nat.reduceBNe, Nat.reduceGT, Int.reduceAdd, Int.reduceSub, Int.reduceMul, Int.reduceNeg, Int.reduceLT, Int.reduceLE, Int.reduceEq, Int.reduceNe, Int.reduceBEq, Int.reduceBNe, Int.reduceToNat, Int.reduceGT, Int.reduceGE, ↓reduceIte, decide_true, decide_false, eq_self, Nat.mul_one, Nat.zero_mul, Nat.one_mul, Int.le_refl, Nat.le_refl, Int.cast_ofNat_Int, Try.f58, Ob.t, Ob.cs, Want.t, hlB, hlT, hs, hw, ho]
noncomputable def rAsked : List TV → Option TV
  | [.agg [sB, sT], .agg [.int .i64 x, .int .i64 y, .int .i64 z], .agg [.int .i64 f, .int .i64 s, .int .i64 a, .int .i64 b, .int .i64 c]] => match rowL unBlanks sB, rowL unSpans sT with
    | some B, some T => if B.length ≤ 5864062014806 ∧ T.length ≤ 9000000000000 then some (.int .i64 (askedG B T ⟨⟨x, y⟩, z⟩ ⟨f, s, a, b, c⟩)) else none
    | _, _ => none
  | _ => none
theorem rAsked_ok : ∀ xs r, rAsked xs = some r → PCalls Try.prog 58 xs r := by
  intro xs r h
  unfold rAsked at h
  split at h
  · split at h
    · rename_i B T hB hT
      split at h
      · rename_i hc; cases h
        exact r4Asked_c (rowL_some (un := unBlanks) rfl (@unBlanks_some) hB) (rowL_some (un := unSpans) rfl (@unSpans_some) hT) hc.1 hc.2 ⟨⟨_, _⟩, _⟩ ⟨_, _, _, _, _⟩
      · cases h
    · cases h
  · cases h
attribute [go_sem] rAsked
theorem r4Bends_c {l : List Int} (full : Bool) (o : Ob) (ha : 0 ≤ o.a ∧ o.a < l.length) (hb : 0 ≤ o.b ∧ o.b < l.length) (hc : 0 ≤ o.c ∧ o.c < l.length) : PCalls Try.prog 89 [o.t, .sl (ints l) l.length full] (.tup [.int .i64 (IntKind.i64.wrap (nth l o.a - nth l o.b)), .int .i64 (IntKind.i64.wrap (nth l o.b - nth l o.c))]) := by
  obtain ⟨of, os, oa, ob, oc⟩ := o
  simp only at ha hb hc
  obtain ⟨a, rfl⟩ := Int.eq_ofNat_of_zero_le ha.1
  obtain ⟨b, rfl⟩ := Int.eq_ofNat_of_zero_le hb.1
  obtain ⟨c, rfl⟩ := Int.eq_ofNat_of_zero_le hc.1
  obtain ⟨x, hx⟩ := get_lt ha.2
  obtain ⟨y, hy⟩ := get_lt hb.2
  obtain ⟨z, hz⟩ := get_lt hc.2
  have d1 := ints_at hx
  have d2 := ints_at hy
  have d3 := ints_at hz
  rw [Nat.mul_one] at d1 d2 d3
  refine pcalls_by Try.mixes noSpec_ok (fn := Try.f89) Try.func89 rfl (by kernel_rfl) (by show 2 ≤ _; decide) ?_
  simp (decide := true) (maxSteps := 4000000) only [go_sem, Nat.reduceAdd, Nat.reduceSub, Nat.reduceMul, Nat.reduceDiv, Nat.reduceMod, Nat.reduceLT, Nat.reduceLeDiff, Nat.reduceEqDiff, Nat.reduceBEq, Nat.reduceBNe, Nat.reduceGT, Int.reduceAdd, Int.reduceSub, Int.reduceMul, Int.reduceNeg, Int.reduceLT, Int.reduceLE, Int.reduceEq, Int.reduceNe, Int.reduceBEq, Int.reduceBNe, Int.reduceToNat, Int.reduceGT, Int.reduceGE, ↓reduceIte, decide_true, decide_false, eq_self, Nat.mul_one, Nat.zero_mul, Nat.one_mul, Int.le_refl, Nat.le_refl, Int.cast_ofNat_Int, Try.f89, Ob.t, Ob.cs, ha.2, hb.2, hc.2, d1, d2, d3, Int.toNat_natCast, nth_eq hx, nth_eq hy, nth_eq hz]
noncomputable def rBends : List TV → Option TV
  | [.agg [.int .i64 f, .int .i64 s, .int .i64 a, .int .i64 b, .int .i64 c], .sl cs n full] => match unI cs with
    | some l => if n = l.length ∧ (0 ≤ a ∧ a < l.length) ∧ (0 ≤ b ∧ b < l.length) ∧ 0 ≤ c ∧ c < l.length then some (.tup [.int .i64 (IntKind.i64.wrap (nth l a - nth l b)), .int .i64 (IntKind.i64.wrap (nth l b - nth l c))]) else none
    | none => none
  | _ => none
theorem rBends_ok : ∀ xs r, rBends xs = some r → PCalls Try.prog 89 xs r := by
  intro xs r h
  unfold rBends at h
  split at h
  · split at h
    · rename_i l hl
      split at h
      · rename_i hc; cases h
        have e1 := unI_some hl
        rw [ic_ints] at e1
        obtain ⟨rfl, h1, h2, h3⟩ := hc
        rw [e1]
        exact r4Bends_c _ ⟨_, _, _, _, _⟩ h1 h2 h3
      · cases h
    · cases h
  · cases h
attribute [go_sem] rBends
noncomputable def spR3 : Pm.Spec := (spR2.one 58 rAsked).one 89 rBends
@[go_sem] theorem spR3_p (f : FuncId) (xs : List TV) : spR3.p f xs = Pm.Spec.p ((spR2.one 58 rAsked).one 89 rBends) f xs := rfl
@[go_sem] theorem spR3_h (f : FuncId) (ps : List PV) (hl : List PO) : spR3.h f ps hl = Pm.Spec.h ((spR2.one 58 rAsked).one 89 rBends) f ps hl := rfl
@[go_sem] theorem spR3_fz (f : FuncId) : spR3.fz f = Pm.Spec.fz ((spR2.one 58 rAsked).one 89 rBends) f := rfl
@[go_sem] theorem spR3_fr (f : FuncId) : spR3.fr f = Pm.Spec.fr ((spR2.one 58 rAsked).one 89 rBends) f := rfl
@[go_sem] theorem spR3_mu (t : TypeId) : spR3.mu t = Pm.Spec.mu ((spR2.one 58 rAsked).one 89 rBends) t := rfl
theorem spR3_ok : SpecOk Try.prog spR3 := Spec.one_ok rBends_ok (Spec.one_ok rAsked_ok spR2_ok)
/-- What the specification reckons. -/
theorem r4SeenV_c {ix co cu : List Int} (f1 f2 f3 : Bool) (o : Ob) (h1 : 0 ≤ o.f ∧ o.f < ix.length) (h2 : 0 ≤ o.s ∧ o.s < ix.length) (hl : co.length = ix.length) (ha : 0 ≤ o.a ∧ o.a < cu.length) (hb : 0 ≤ o.b ∧ o.b < cu.length) (hc : 0 ≤ o.c ∧ o.c < cu.length) :
    PCalls Try.prog 59 [o.t, .agg [.sl (ints ix) ix.length f1, .sl (ints co) co.length f2, .sl (ints cu) cu.length f3]] (.tup [.int .i64 (pwW (nth ix o.f) (nth ix o.s) (nth cu o.a) (nth cu o.b) (nth cu o.c)), .int .i64 (pwW (nth co o.f) (nth co o.s) (nth cu o.a) (nth cu o.b) (nth cu o.c))]) := by
  obtain ⟨of, os, oa, ob, oc⟩ := o
  simp only at h1 h2 ha hb hc ⊢
  obtain ⟨i, rfl⟩ := Int.eq_ofNat_of_zero_le h1.1
  obtain ⟨j, rfl⟩ := Int.eq_ofNat_of_zero_le h2.1
  have h3 : (i : Int) < co.length := by omega
  have h4 : (j : Int) < co.length := by omega
  obtain ⟨x, hx⟩ := get_lt h1.2
  obtain ⟨y, hy⟩ := get_lt h2.2
  obtain ⟨z, hz⟩ := get_lt h3
  obtain ⟨u, hu⟩ := get_lt h4
  have d1 := ints_at hx
  have d2 := ints_at hy
  have d3 := ints_at hz
  have d4 := ints_at hu
  rw [Nat.mul_one] at d1 d2 d3 d4
  refine pcalls_by Try.mixes spR3_ok (fn := Try.f59) Try.func59 rfl (by kernel_rfl) (by show 2 ≤ _; decide) ?_
  simp (decide := true) (maxSteps := 4000000) only [go_sem, Nat.reduceAdd, Nat.reduceSub, Nat.reduceMul, Nat.reduceDiv, Nat.reduceMod, Nat.reduceLT, Nat.reduceLeDiff, Nat.reduceEqDiff, Nat.reduceBEq, Nat.reduceBNe, Nat.reduceGT, Int.reduceAdd, Int.reduceSub, Int.reduceMul, Int.reduceNeg, Int.reduceLT, Int.reduceLE, Int.reduceEq, Int.reduceNe, Int.reduceBEq, Int.reduceBNe, Int.reduceToNat, Int.reduceGT, Int.reduceGE, ↓reduceIte, decide_true, decide_false, eq_self, Nat.mul_one, Nat.zero_mul, Nat.one_mul, Int.le_refl, Nat.le_refl, Int.cast_ofNat_Int, Try.f59, Ob.t, Ob.cs, unI_eq, h1.2, h2.2, h3, h4, d1, d2, d3, d4, ha, hb, hc, Int.toNat_natCast, nth_eq hx, nth_eq hy, nth_eq hz, nth_eq hu, pwW]
noncomputable def rSeenV : List TV → Option TV
  | [.agg [.int .i64 f, .int .i64 s, .int .i64 a, .int .i64 b, .int .i64 c], .agg [.sl c1 n1 f1, .sl c2 n2 f2, .sl c3 n3 f3]] => match unI c1, unI c2, unI c3 with
    | some ix, some co, some cu => if (n1 = ix.length ∧ n2 = co.length ∧ n3 = cu.length) ∧ (0 ≤ f ∧ f < ix.length) ∧ (0 ≤ s ∧ s < ix.length) ∧ co.length = ix.length ∧ (0 ≤ a ∧ a < cu.length) ∧ (0 ≤ b ∧ b < cu.length) ∧ 0 ≤ c ∧ c < cu.length then
        some (.tup [.int .i64 (pwW (nth ix f) (nth ix s) (nth cu a) (nth cu b) (nth cu c)), .int .i64 (pwW (nth co f) (nth co s) (nth cu a) (nth cu b) (nth cu c))]) else none
    | _, _, _ => none
  | _ => none
theorem rSeenV_ok : ∀ xs r, rSeenV xs = some r → PCalls Try.prog 59 xs r := by
  intro xs r h
  unfold rSeenV at h
  split at h
  · split at h
    · rename_i ix co cu e1 e2 e3
      split at h
      · rename_i hc; cases h
        have e1 := unI_some e1
        have e2 := unI_some e2
        have e3 := unI_some e3
        rw [ic_ints] at e1 e2 e3
        obtain ⟨⟨rfl, rfl, rfl⟩, h1, h2, hl, h3, h4, h5⟩ := hc
        rw [e1, e2, e3]
        exact r4SeenV_c _ _ _ ⟨_, _, _, _, _⟩ h1 h2 hl h3 h4 h5
      · cases h
    · cases h
  · cases h
attribute [go_sem] rSeenV
noncomputable def spR4 : Pm.Spec := spR3.one 59 rSeenV
@[go_sem] theorem spR4_p (f : FuncId) (xs : List TV) : spR4.p f xs = Pm.Spec.p (spR3.one 59 rSeenV) f xs := rfl
@[go_sem] theorem spR4_h (f : FuncId) (ps : List PV) (hl : List PO) : spR4.h f ps hl = Pm.Spec.h (spR3.one 59 rSeenV) f ps hl := rfl
@[go_sem] theorem spR4_fz (f : FuncId) : spR4.fz f = Pm.Spec.fz (spR3.one 59 rSeenV) f := rfl
@[go_sem] theorem spR4_fr (f : FuncId) : spR4.fr f = Pm.Spec.fr (spR3.one 59 rSeenV) f := rfl
@[go_sem] theorem spR4_mu (t : TypeId) : spR4.mu t = Pm.Spec.mu (spR3.one 59 rSeenV) t := rfl
theorem spR4_ok : SpecOk Try.prog spR4 := Spec.one_ok rSeenV_ok spR3_ok
end Go.Proofs.Ytcjcnmpecmbdeaa

/- Part Gs. -/
namespace Go.Oc
open Go Go.Pm
theorem set_of (p : Nat → Bool) : ∀ n : Nat, ∃ s, s < 2 ^ n ∧ ∀ i, i < n → s.testBit i = p i
  | 0 => ⟨0, by simp, fun i h => by omega⟩
  | n + 1 => by
    obtain ⟨s, h1, h2⟩ := set_of p n
    have hlt : s < 2 ^ (n + 1) := Nat.lt_of_lt_of_le h1 (Nat.pow_le_pow_right (by omega) (by omega))
    cases hp : p n with
    | false =>
      refine ⟨s, hlt, fun i hi => ?_⟩
      by_cases hin : i = n
      · subst hin; rw [hp]; exact Nat.testBit_lt_two_pow h1
      · exact h2 i (by omega)
    | true =>
      refine ⟨s ||| 2 ^ n, Nat.or_lt_two_pow hlt (Nat.pow_lt_pow_right (by omega) (by omega)), fun i hi => ?_⟩
      rw [Nat.testBit_or, Nat.testBit_two_pow]
      by_cases hin : i = n
      · subst hin; simp [hp]
      · rw [h2 i (by omega)]
        have : decide (n = i) = false := by simp; omega
        rw [this, Bool.or_false]
theorem nth_map {n : Nat} {f : Nat → Int} {i : Int} (h0 : 0 ≤ i) (h1 : i < n) : nth ((List.range n).map f) i = f i.toNat := by
  unfold nth
  rw [List.getD_eq_getElem?_getD, List.getElem?_map, List.getElem?_range (by omega)]; rfl
theorem hiOf_f {o : Ob} {bits : Nat} (h : 0 ≤ o.f) (hne : o.f ≠ o.s) : hiOf o bits o.f.toNat = bits.testBit 0 := by
  unfold hiOf
  rw [Int.toNat_of_nonneg h]
  have : (o.f == o.s) = false := by simpa using hne
  simp [this]
theorem hiOf_s {o : Ob} {bits : Nat} (h : 0 ≤ o.s) (hne : o.f ≠ o.s) : hiOf o bits o.s.toNat = bits.testBit 1 := by
  unfold hiOf
  rw [Int.toNat_of_nonneg h]
  have : (o.s == o.f) = false := by simpa using fun e : o.s = o.f => hne e.symm
  simp [this]
/-- In the corner that bits choose: power and colour. -/
def bitsG (bits : Nat) (t : Int) : Bool := bits.testBit (2 + t.toNat)
theorem corner_seen {B : List Blank} {T : List Span} {o : Ob} (ho : obOk B.length T.length o = true) (bits : Nat) :
    (nth (cIx B o bits B.length) o.f = endS (blankAt B o.f).i (bits.testBit 0) ∧ nth (cIx B o bits B.length) o.s = endS (blankAt B o.s).i (bits.testBit 1)) ∧
    (nth (cCo B o bits B.length) o.f = endS (blankAt B o.f).c (bits.testBit 0) ∧ nth (cCo B o bits B.length) o.s = endS (blankAt B o.s).c (bits.testBit 1)) ∧
    ∀ t : Int, 0 ≤ t → t < T.length → nth (cCu T bits T.length) t = endS (toolAt T t) (bitsG bits t) := by
  obtain ⟨a, b, c, d, e, f⟩ := obOk_iff.1 ho
  have e1 : ((o.f.toNat : Nat) : Int) = o.f := Int.toNat_of_nonneg a.1
  have e2 : ((o.s.toNat : Nat) : Int) = o.s := Int.toNat_of_nonneg b.1
  unfold cIx cCo cCu
  refine ⟨⟨?_, ?_⟩, ⟨?_, ?_⟩, fun t h0 h1 => ?_⟩
  · rw [nth_map a.1 (by omega), hiOf_f a.1 c, e1]
  · rw [nth_map b.1 (by omega), hiOf_s b.1 c, e2]
  · rw [nth_map a.1 (by omega), hiOf_f a.1 c, e1]
  · rw [nth_map b.1 (by omega), hiOf_s b.1 c, e2]
  · rw [nth_map h0 h1, Int.toNat_of_nonneg h0]; rfl
/-- All corners of the specification. -/
def refV (s1 s2 : Span) (T : List Span) (o : Ob) (bits : Nat) : Int := endV s1 s2 T o (bits.testBit 0) (bits.testBit 1) (bitsG bits)
def refL (s1 s2 : Span) (T : List Span) (o : Ob) (k : Nat) : List Int := (List.range k).map (refV s1 s2 T o)
theorem refL_succ (s1 s2 : Span) (T : List Span) (o : Ob) (k : Nat) : refL s1 s2 T o (k + 1) = refL s1 s2 T o k ++ [refV s1 s2 T o k] := by unfold refL; rw [List.range_succ, List.map_append]; rfl
theorem refL_all {B : List Blank} {T : List Span} {o : Ob} (ho : obOk B.length T.length o = true) (s1 s2 : Span) : minmax (refL s1 s2 T o (2 ^ (T.length + 2))) = minmax (corners s1 s2 (toolAt T o.a) (toolAt T o.b) (toolAt T o.c) o 32) := by
  obtain ⟨_, _, _, d, e, f⟩ := obOk_iff.1 ho
  have hpos : 0 < 2 ^ (T.length + 2) := Nat.pow_pos (by omega)
  refine minmax_ext ?_ (corners_ne _ _ _ _ _ _) fun v => ?_
  · intro h
    have := congrArg List.length h
    unfold refL at this
    rw [List.length_map, List.length_range, List.length_nil] at this
    omega
  · rw [corner_iff]
    unfold refL
    rw [List.mem_map]
    constructor
    · rintro ⟨bits, _, rfl⟩
      exact ⟨_, _, _, rfl⟩
    · rintro ⟨hi, hj, g, rfl⟩
      obtain ⟨s, h1, h2⟩ := set_of (fun i => if i = 0 then hi else if i = 1 then hj else g ((i : Int) - 2)) (T.length + 2)
      refine ⟨s, List.mem_range.2 h1, ?_⟩
      have q0 := h2 0 (by omega)
      have q1 := h2 1 (by omega)
      simp only [if_true, Nat.one_ne_zero, if_false] at q0 q1
      have qt : ∀ t : Int, 0 ≤ t → t ≤ (T.length : Int) - 1 → bitsG s t = g t := by
        intro t h3 h4
        unfold bitsG
        rw [h2 (2 + t.toNat) (by omega), if_neg (by omega), if_neg (by omega)]
        congr 1
        omega
      unfold refV endV
      rw [q0, q1, qt _ d.1 d.2, qt _ e.1 e.2, qt _ f.1 f.2]
theorem minmax_wider (l : List Int) (v : Int) (k : Nat) (hl : l.length = k) : widerS (minmax l) v ((k : Int) == 0) = minmax (l ++ [v]) := by
  cases l with
  | nil => simp only [List.length_nil] at hl; subst hl; rfl
  | cons x l =>
    have : ((k : Int) == 0) = false := by rw [← hl]; simp; omega
    rw [this, minmax_snoc _ _ (by simp)]; rfl
theorem refL_len (s1 s2 : Span) (T : List Span) (o : Ob) (k : Nat) : (refL s1 s2 T o k).length = k := by simp [refL]
end Go.Oc
namespace Go.Proofs.Ytcjcnmpecmbdeaa
open Go.RowKit Go.Pm Go.Oc
set_option maxRecDepth 100000
set_option linter.unusedVariables false
set_option maxHeartbeats 4000000

theorem r4Corner_c {B : List Blank} {T : List Span} (fB fT : Bool) (h1 : 1 ≤ B.length ∧ B.length ≤ 8) (h2 : 1 ≤ T.length ∧ T.length ≤ 6) (o : Ob) (bits : Nat) : PCalls Try.prog 93 [.agg [.sl (B.flatMap Blank.cs) B.length fB, .sl (T.flatMap Span.cs) T.length fT], o.t, .int .i64 bits]
    (.agg [.sl (ints (cIx B o bits B.length)) B.length false, .sl (ints (cCo B o bits B.length)) B.length false, .sl (ints (cCu T bits T.length)) T.length false]) := by
  have b0 : 0 ≤ (bits : Int) := by omega
  refine pcalls_by Try.mixes spR4_ok (fn := Try.f93) Try.func93 rfl (by kernel_rfl) (by show 3 ≤ _; decide) ?_
  simp (decide := true) (maxSteps := 4000000) only [go_sem, Nat.reduceAdd, Nat.reduceSub, Nat.reduceMul, Nat.reduceDiv, Nat.reduceMod, Nat.reduceLT, Nat.reduceLeDiff, Nat.reduceEqDiff, Nat.reduceBEq, Nat.reduceBNe, Nat.reduceGT, Int.reduceAdd, Int.reduceSub, Int.reduceMul, Int.reduceNeg, Int.reduceLT, Int.reduceLE, Int.reduceEq, Int.reduceNe, Int.reduceBEq, Int.reduceBNe, Int.reduceToNat, Int.reduceGT, Int.reduceGE, ↓reduceIte, decide_true, decide_false, eq_self, Nat.mul_one, Nat.zero_mul, Nat.one_mul, Int.le_refl, Nat.le_refl, Int.cast_ofNat_Int, Try.f93, Ob.t, Ob.cs]
  refine pwpC_loopU (A := { k : Nat // k ≤ B.length }) [2, 3, 4, 6, 7] (fun k => [(8, .t (.int .i64 k.1))]) (fun k => [(3, .box [.own (ints (cIx B o bits k.1)) k.1 4, .own (ints (cCo B o bits k.1)) k.1 5, .t .nilSl]), (4, .tok k.1 3), (5, .tok k.1 3)]) (fun k => B.length - k.1) ⟨0, by omega⟩ (by decide) (fun _ => by rfl) ?_ fun Q1 hQ1 ⟨k, hk⟩ I1 hI1 => ?_
  · simp (decide := true) (maxSteps := 4000000) only [go_sem, Nat.reduceAdd, Nat.reduceSub, Nat.reduceMul, Nat.reduceDiv, Nat.reduceMod, Nat.reduceLT, Nat.reduceLeDiff, Nat.reduceEqDiff, Nat.reduceBEq, Nat.reduceBNe, Nat.reduceGT, Int.reduceAdd, Int.reduceSub, Int.reduceMul, Int.reduceNeg, Int.reduceLT, Int.reduceLE, Int.reduceEq, Int.reduceNe, Int.reduceBEq, Int.reduceBNe, Int.reduceToNat, Int.reduceGT, Int.reduceGE, ↓reduceIte, decide_true, decide_false, eq_self, Nat.mul_one, Nat.zero_mul, Nat.one_mul, Int.le_refl, Nat.le_refl, Int.cast_ofNat_Int, cIx, cCo, List.range_zero, List.map_nil, ints]
    first | done | exact ⟨rfl, rfl⟩
  · by_cases hlt : (k : Int) < B.length
    · obtain ⟨x, hx⟩ := get_lt hlt
      have hd := flat_at Blank.cs (n := 5) (fun _ => rfl) hx
      have hc1 : IntKind.i64.wrap (k + 1) = ((k + 1 : Nat) : Int) := by rw [wrap_in (by omega) (by omega)]; omega
      have s1 := cIx_succ B o bits k
      have s2 := cCo_succ B o bits k
      rw [blankAt_eq hx] at s1 s2
      have el1 : (ints (cIx B o bits k)).length = k := by rw [ints_len, cIx_len]
      have el2 : (ints (cCo B o bits k)).length = k := by rw [ints_len, cCo_len]
      have hroom : (k + 1) * 8 ≤ 140737488355328 := by omega
      have hhi : hiOf o bits k = (((k : Int) == o.f && bits.testBit 0) || ((k : Int) == o.s && bits.testBit 1)) := rfl
      cases g1 : ((k : Int) == o.f) <;> cases g2 : ((k : Int) == o.s) <;> cases g3 : bits.testBit 0 <;> cases g4 : bits.testBit 1 <;> rw [g1, g2, g3, g4] at hhi <;> simp only [Bool.and_true, Bool.and_false, Bool.or_true, Bool.or_false, Bool.true_and, Bool.false_and, Bool.and_self, Bool.or_self] at hhi <;> rw [hhi] at s1 s2
      all_goals simp (decide := true) (maxSteps := 4000000) only [go_sem, Nat.reduceAdd, Nat.reduceSub, Nat.reduceMul, Nat.reduceDiv, Nat.reduceMod, Nat.reduceLT, Nat.reduceLeDiff, Nat.reduceEqDiff, Nat.reduceBEq, Nat.reduceBNe, Nat.reduceGT, Int.reduceAdd, Int.reduceSub, Int.reduceMul, Int.reduceNeg, Int.reduceLT, Int.reduceLE, Int.reduceEq, Int.reduceNe, Int.reduceBEq, Int.reduceBNe, Int.reduceToNat, Int.reduceGT, Int.reduceGE, ↓reduceIte, decide_true, decide_false, eq_self, Nat.mul_one, Nat.zero_mul, Nat.one_mul, Int.le_refl, Nat.le_refl, Int.cast_ofNat_Int, hlt, b0, hd, Blank.cs, g1, g2, g3, g4, el1, el2, hroom, Int.toNat_natCast]
      all_goals refine hI1 _ ⟨k + 1, by omega⟩ (by simp only; omega) ?_
      all_goals simp (decide := true) (maxSteps := 4000000) only [go_sem, Nat.reduceAdd, Nat.reduceSub, Nat.reduceMul, Nat.reduceDiv, Nat.reduceMod, Nat.reduceLT, Nat.reduceLeDiff, Nat.reduceEqDiff, Nat.reduceBEq, Nat.reduceBNe, Nat.reduceGT, Int.reduceAdd, Int.reduceSub, Int.reduceMul, Int.reduceNeg, Int.reduceLT, Int.reduceLE, Int.reduceEq, Int.reduceNe, Int.reduceBEq, Int.reduceBNe, Int.reduceToNat, Int.reduceGT, Int.reduceGE, ↓reduceIte, decide_true, decide_false, eq_self, Nat.mul_one, Nat.zero_mul, Nat.one_mul, Int.le_refl, Nat.le_refl, Int.cast_ofNat_Int, hc1, s1, s2, ints_snoc']
    · have hke : k = B.length := by omega
      subst hke
      simp (decide := true) (maxSteps := 4000000) only [go_sem, Nat.reduceAdd, Nat.reduceSub, Nat.reduceMul, Nat.reduceDiv, Nat.reduceMod, Nat.reduceLT, Nat.reduceLeDiff, Nat.reduceEqDiff, Nat.reduceBEq, Nat.reduceBNe, Nat.reduceGT, Int.reduceAdd, Int.reduceSub, Int.reduceMul, Int.reduceNeg, Int.reduceLT, Int.reduceLE, Int.reduceEq, Int.reduceNe, Int.reduceBEq, Int.reduceBNe, Int.reduceToNat, Int.reduceGT, Int.reduceGE, ↓reduceIte, decide_true, decide_false, eq_self, Nat.mul_one, Nat.zero_mul, Nat.one_mul, Int.le_refl, Nat.le_refl, Int.cast_ofNat_Int, hlt]
      refine hQ1 _ _ ?_
      simp (decide := true) (maxSteps := 4000000) only [go_sem, Nat.reduceAdd, Nat.reduceSub, Nat.reduceMul, Nat.reduceDiv, Nat.reduceMod, Nat.reduceLT, Nat.reduceLeDiff, Nat.reduceEqDiff, Nat.reduceBEq, Nat.reduceBNe, Nat.reduceGT, Int.reduceAdd, Int.reduceSub, Int.reduceMul, Int.reduceNeg, Int.reduceLT, Int.reduceLE, Int.reduceEq, Int.reduceNe, Int.reduceBEq, Int.reduceBNe, Int.reduceToNat, Int.reduceGT, Int.reduceGE, ↓reduceIte, decide_true, decide_false, eq_self, Nat.mul_one, Nat.zero_mul, Nat.one_mul, Int.le_refl, Nat.le_refl, Int.cast_ofNat_Int]
      refine pwpC_loopU (A := { k : Nat // k ≤ T.length }) [2, 3, 4, 6, 7] (fun k => [(10, .t (.int .i64 k.1))]) (fun k => [(3, .box [.own (ints (cIx B o bits B.length)) B.length 4, .own (ints (cCo B o bits B.length)) B.length 5, .own (ints (cCu T bits k.1)) k.1 6]), (6, .tok k.1 3)]) (fun k => T.length - k.1) ⟨0, by omega⟩ (by decide) (fun _ => by rfl) ?_ fun Q2 hQ2 ⟨m, hm⟩ I2 hI2 => ?_
      · simp (decide := true) (maxSteps := 4000000) only [go_sem, Nat.reduceAdd, Nat.reduceSub, Nat.reduceMul, Nat.reduceDiv, Nat.reduceMod, Nat.reduceLT, Nat.reduceLeDiff, Nat.reduceEqDiff, Nat.reduceBEq, Nat.reduceBNe, Nat.reduceGT, Int.reduceAdd, Int.reduceSub, Int.reduceMul, Int.reduceNeg, Int.reduceLT, Int.reduceLE, Int.reduceEq, Int.reduceNe, Int.reduceBEq, Int.reduceBNe, Int.reduceToNat, Int.reduceGT, Int.reduceGE, ↓reduceIte, decide_true, decide_false, eq_self, Nat.mul_one, Nat.zero_mul, Nat.one_mul, Int.le_refl, Nat.le_refl, Int.cast_ofNat_Int, cCu, List.range_zero, List.map_nil, ints]
        first | done | rfl
      · by_cases hlt2 : (m : Int) < T.length
        · obtain ⟨y, hy⟩ := get_lt hlt2
          have hd := flat_at Span.cs (n := 2) (fun _ => rfl) hy
          have hc1 : IntKind.i64.wrap (m + 1) = ((m + 1 : Nat) : Int) := by rw [wrap_in (by omega) (by omega)]; omega
          have hc2 : IntKind.i64.wrap (2 + m) = ((2 + m : Nat) : Int) := by rw [wrap_in (by omega) (by omega)]; omega
          have s3 := cCu_succ T bits m
          rw [toolAt_eq hy] at s3
          have el3 : (ints (cCu T bits m)).length = m := by rw [ints_len, cCu_len]
          have hroom : (m + 1) * 8 ≤ 140737488355328 := by omega
          have hb : 0 ≤ (bits : Int) ∧ 0 ≤ ((2 + m : Nat) : Int) ∧ ((2 + m : Nat) : Int) < 64 := by omega
          simp (decide := true) (maxSteps := 4000000) only [go_sem, Nat.reduceAdd, Nat.reduceSub, Nat.reduceMul, Nat.reduceDiv, Nat.reduceMod, Nat.reduceLT, Nat.reduceLeDiff, Nat.reduceEqDiff, Nat.reduceBEq, Nat.reduceBNe, Nat.reduceGT, Int.reduceAdd, Int.reduceSub, Int.reduceMul, Int.reduceNeg, Int.reduceLT, Int.reduceLE, Int.reduceEq, Int.reduceNe, Int.reduceBEq, Int.reduceBNe, Int.reduceToNat, Int.reduceGT, Int.reduceGE, ↓reduceIte, decide_true, decide_false, eq_self, Nat.mul_one, Nat.zero_mul, Nat.one_mul, Int.le_refl, Nat.le_refl, Int.cast_ofNat_Int, hlt2, hc2, hb, hd, Span.cs, el3, hroom, Int.toNat_natCast]
          refine hI2 _ ⟨m + 1, by omega⟩ (by simp only; omega) ?_
          simp (decide := true) (maxSteps := 4000000) only [go_sem, Nat.reduceAdd, Nat.reduceSub, Nat.reduceMul, Nat.reduceDiv, Nat.reduceMod, Nat.reduceLT, Nat.reduceLeDiff, Nat.reduceEqDiff, Nat.reduceBEq, Nat.reduceBNe, Nat.reduceGT, Int.reduceAdd, Int.reduceSub, Int.reduceMul, Int.reduceNeg, Int.reduceLT, Int.reduceLE, Int.reduceEq, Int.reduceNe, Int.reduceBEq, Int.reduceBNe, Int.reduceToNat, Int.reduceGT, Int.reduceGE, ↓reduceIte, decide_true, decide_false, eq_self, Nat.mul_one, Nat.zero_mul, Nat.one_mul, Int.le_refl, Nat.le_refl, Int.cast_ofNat_Int, hc1, s3, ints_snoc']
        · have hme : m = T.length := by omega
          subst hme
          have n1 : ¬ B.length = 0 := by omega
          have n2 : ¬ T.length = 0 := by omega
          simp (decide := true) (maxSteps := 4000000) only [go_sem, Nat.reduceAdd, Nat.reduceSub, Nat.reduceMul, Nat.reduceDiv, Nat.reduceMod, Nat.reduceLT, Nat.reduceLeDiff, Nat.reduceEqDiff, Nat.reduceBEq, Nat.reduceBNe, Nat.reduceGT, Int.reduceAdd, Int.reduceSub, Int.reduceMul, Int.reduceNeg, Int.reduceLT, Int.reduceLE, Int.reduceEq, Int.reduceNe, Int.reduceBEq, Int.reduceBNe, Int.reduceToNat, Int.reduceGT, Int.reduceGE, ↓reduceIte, decide_true, decide_false, eq_self, Nat.mul_one, Nat.zero_mul, Nat.one_mul, Int.le_refl, Nat.le_refl, Int.cast_ofNat_Int, hlt2]
          refine hQ2 _ _ ?_
          simp (decide := true) (maxSteps := 4000000) only [go_sem, Nat.reduceAdd, Nat.reduceSub, Nat.reduceMul, Nat.reduceDiv, Nat.reduceMod, Nat.reduceLT, Nat.reduceLeDiff, Nat.reduceEqDiff, Nat.reduceBEq, Nat.reduceBNe, Nat.reduceGT, Int.reduceAdd, Int.reduceSub, Int.reduceMul, Int.reduceNeg, Int.reduceLT, Int.reduceLE, Int.reduceEq, Int.reduceNe, Int.reduceBEq, Int.reduceBNe, Int.reduceToNat, Int.reduceGT, Int.reduceGE, ↓reduceIte, decide_true, decide_false, eq_self, Nat.mul_one, Nat.zero_mul, Nat.one_mul, Int.le_refl, Nat.le_refl, Int.cast_ofNat_Int, n1, n2]
noncomputable def rCorner : List TV → Option TV
  | [.agg [.sl cB n fB, .sl cT m fT], .agg [.int .i64 f, .int .i64 s, .int .i64 a, .int .i64 b, .int .i64 c], .int .i64 bits] => match unBlanks cB, unSpans cT with
    | some B, some T => if n = B.length ∧ m = T.length ∧ (1 ≤ B.length ∧ B.length ≤ 8) ∧ (1 ≤ T.length ∧ T.length ≤ 6) ∧ 0 ≤ bits then
        some (.agg [.sl (ints (cIx B ⟨f, s, a, b, c⟩ bits.toNat B.length)) B.length false, .sl (ints (cCo B ⟨f, s, a, b, c⟩ bits.toNat B.length)) B.length false, .sl (ints (cCu T bits.toNat T.length)) T.length false]) else none
    | _, _ => none
  | _ => none
theorem rCorner_ok : ∀ xs r, rCorner xs = some r → PCalls Try.prog 93 xs r := by
  intro xs r h
  unfold rCorner at h
  split at h
  · rename_i cB n fB cT m fT f s a b c bits
    split at h
    · rename_i B T hB hT
      split at h
      · rename_i hc; cases h
        obtain ⟨rfl, rfl, h1, h2, h3⟩ := hc
        rw [unBlanks_some hB, unSpans_some hT]
        have := r4Corner_c (B := B) (T := T) fB fT h1 h2 ⟨f, s, a, b, c⟩ bits.toNat
        rw [Int.toNat_of_nonneg h3] at this
        exact this
      · cases h
    · cases h
  · cases h
attribute [go_sem] rCorner
noncomputable def spS1 : Pm.Spec := spR4.one 93 rCorner
@[go_sem] theorem spS1_p (f : FuncId) (xs : List TV) : spS1.p f xs = Pm.Spec.p (spR4.one 93 rCorner) f xs := rfl
@[go_sem] theorem spS1_h (f : FuncId) (ps : List PV) (hl : List PO) : spS1.h f ps hl = Pm.Spec.h (spR4.one 93 rCorner) f ps hl := rfl
@[go_sem] theorem spS1_fz (f : FuncId) : spS1.fz f = Pm.Spec.fz (spR4.one 93 rCorner) f := rfl
@[go_sem] theorem spS1_fr (f : FuncId) : spS1.fr f = Pm.Spec.fr (spR4.one 93 rCorner) f := rfl
@[go_sem] theorem spS1_mu (t : TypeId) : spS1.mu t = Pm.Spec.mu (spR4.one 93 rCorner) t := rfl
theorem spS1_ok : SpecOk Try.prog spS1 := Spec.one_ok rCorner_ok spR4_ok
end Go.Proofs.Ytcjcnmpecmbdeaa

/- Part Gt. -/
namespace Go.Proofs.Ytcjcnmpecmbdeaa
open Go.RowKit Go.Pm Go.Oc
set_option maxRecDepth 100000
set_option linter.unusedVariables false
set_option maxHeartbeats 4000000

theorem r4Spans_c {B : List Blank} {T : List Span} (fB fT : Bool) (hs : stockOk B T = true) (o : Ob) (ho : obOk B.length T.length o = true) : PCalls Try.prog 63 [.agg [.sl (B.flatMap Blank.cs) B.length fB, .sl (T.flatMap Span.cs) T.length fT], o.t] (.tup [(spansP B T o).p.t, (spansP B T o).c.t]) := by
  have hs' := stockOk_iff.1 hs
  have ho' := obOk_iff.1 ho
  obtain ⟨N, hN⟩ : ∃ N, 2 ^ (T.length + 2) = N := ⟨_, rfl⟩
  have hp : spansP B T o = ⟨minmax (refL (blankAt B o.f).i (blankAt B o.s).i T o N), minmax (refL (blankAt B o.f).c (blankAt B o.s).c T o N)⟩ := by
    rw [← hN, refL_all ho, refL_all ho]; rfl
  have hNb : 8 ≤ N ∧ N ≤ 256 := by
    rcases (show T.length = 1 ∨ T.length = 2 ∨ T.length = 3 ∨ T.length = 4 ∨ T.length = 5 ∨ T.length = 6 by omega) with e | e | e | e | e | e <;> rw [e] at hN <;> subst hN <;> decide
  have hlz : ¬ (T.length : Int) < 0 := by omega
  have hsh : IntKind.i64.wrap (4 * 2 ^ min T.length 64) = (N : Int) := by
    rcases (show T.length = 1 ∨ T.length = 2 ∨ T.length = 3 ∨ T.length = 4 ∨ T.length = 5 ∨ T.length = 6 by omega) with e | e | e | e | e | e <;> rw [e] at hN ⊢ <;> subst hN <;> rfl
  rw [hp]
  refine pcalls_by Try.mixes spS1_ok (fn := Try.f63) Try.func63 rfl (by kernel_rfl) (by show 2 ≤ _; decide) ?_
  simp (decide := true) (maxSteps := 4000000) only [go_sem, Nat.reduceAdd, Nat.reduceSub, Nat.reduceMul, Nat.reduceDiv, Nat.reduceMod, Nat.reduceLT, Nat.reduceLeDiff, Nat.reduceEqDiff, Nat.reduceBEq, Nat.reduceBNe, Nat.reduceGT, Int.reduceAdd, Int.reduceSub, Int.reduceMul, Int.reduceNeg, Int.reduceLT, Int.reduceLE, Int.reduceEq, Int.reduceNe, Int.reduceBEq, Int.reduceBNe, Int.reduceToNat, Int.reduceGT, Int.reduceGE, ↓reduceIte, decide_true, decide_false, eq_self, Nat.mul_one, Nat.zero_mul, Nat.one_mul, Int.le_refl, Nat.le_refl, Int.cast_ofNat_Int, Try.f63, Ob.t, Ob.cs]
  refine pwpC_loopU (A := { k : Nat // k ≤ N }) [2, 3, 4, 5, 6, 7] (fun k => [(8, .t (.int .i64 k.1))]) (fun k => [(4, .box ((minmax (refL (blankAt B o.f).i (blankAt B o.s).i T o k.1)).cs.map .t)), (5, .box ((minmax (refL (blankAt B o.f).c (blankAt B o.s).c T o k.1)).cs.map .t))]) (fun k => N - k.1) ⟨0, by omega⟩ (by decide) (fun _ => by rfl) ?_ fun Q1 hQ1 ⟨k, hk⟩ I1 hI1 => ?_
  · simp (decide := true) (maxSteps := 4000000) only [go_sem, Nat.reduceAdd, Nat.reduceSub, Nat.reduceMul, Nat.reduceDiv, Nat.reduceMod, Nat.reduceLT, Nat.reduceLeDiff, Nat.reduceEqDiff, Nat.reduceBEq, Nat.reduceBNe, Nat.reduceGT, Int.reduceAdd, Int.reduceSub, Int.reduceMul, Int.reduceNeg, Int.reduceLT, Int.reduceLE, Int.reduceEq, Int.reduceNe, Int.reduceBEq, Int.reduceBNe, Int.reduceToNat, Int.reduceGT, Int.reduceGE, ↓reduceIte, decide_true, decide_false, eq_self, Nat.mul_one, Nat.zero_mul, Nat.one_mul, Int.le_refl, Nat.le_refl, Int.cast_ofNat_Int, refL, List.range_zero, List.map_nil, minmax, Span.cs]
    first | done | exact ⟨rfl, rfl⟩
  · by_cases hlt : (k : Int) < N
    · have hc1 : IntKind.i64.wrap (k + 1) = ((k + 1 : Nat) : Int) := by rw [wrap_in (by omega) (by omega)]; omega
      obtain ⟨⟨c1, c2⟩, ⟨c3, c4⟩, c5⟩ := corner_seen ho k
      have w1 := minmax_wider (refL (blankAt B o.f).i (blankAt B o.s).i T o k) (refV (blankAt B o.f).i (blankAt B o.s).i T o k) k (refL_len ..)
      have w2 := minmax_wider (refL (blankAt B o.f).c (blankAt B o.s).c T o k) (refV (blankAt B o.f).c (blankAt B o.s).c T o k) k (refL_len ..)
      rw [← refL_succ] at w1 w2
      have b1 := blank_ok hs ho'.1.1 (by omega)
      have b2 := blank_ok hs ho'.2.1.1 (by omega)
      have t1 := tool_ok hs ho'.2.2.2.1.1 (by omega)
      have t2 := tool_ok hs ho'.2.2.2.2.1.1 (by omega)
      have t3 := tool_ok hs ho'.2.2.2.2.2.1 (by omega)
      have m1 := endS_mem b1.1.2.1 (k.testBit 0)
      have m2 := endS_mem b2.1.2.1 (k.testBit 1)
      have m3 := endS_mem b1.2.1.2.1 (k.testBit 0)
      have m4 := endS_mem b2.2.1.2.1 (k.testBit 1)
      have m5 := endS_mem t1.2.1 (bitsG k o.a)
      have m6 := endS_mem t2.2.1 (bitsG k o.b)
      have m7 := endS_mem t3.2.1 (bitsG k o.c)
      have p1 : pwW (nth (cIx B o k B.length) o.f) (nth (cIx B o k B.length) o.s) (nth (cCu T k T.length) o.a) (nth (cCu T k T.length) o.b) (nth (cCu T k T.length) o.c) = refV (blankAt B o.f).i (blankAt B o.s).i T o k := by
        rw [c1, c2, c5 _ ho'.2.2.2.1.1 (by omega), c5 _ ho'.2.2.2.2.1.1 (by omega), c5 _ ho'.2.2.2.2.2.1 (by omega)]
        exact (pw_wrap (by omega) (by omega) (by omega) (by omega) (by omega)).1
      have p2 : pwW (nth (cCo B o k B.length) o.f) (nth (cCo B o k B.length) o.s) (nth (cCu T k T.length) o.a) (nth (cCu T k T.length) o.b) (nth (cCu T k T.length) o.c) = refV (blankAt B o.f).c (blankAt B o.s).c T o k := by
        rw [c3, c4, c5 _ ho'.2.2.2.1.1 (by omega), c5 _ ho'.2.2.2.2.1.1 (by omega), c5 _ ho'.2.2.2.2.2.1 (by omega)]
        exact (pw_wrap (by omega) (by omega) (by omega) (by omega) (by omega)).1
      have q1 : (1 ≤ B.length ∧ B.length ≤ 8) ∧ (1 ≤ T.length ∧ T.length ≤ 6) ∧ 0 ≤ (k : Int) := by omega
      have q2 : (0 ≤ o.f ∧ o.f < B.length) ∧ (0 ≤ o.s ∧ o.s < B.length) ∧ (0 ≤ o.a ∧ o.a < T.length) ∧ (0 ≤ o.b ∧ o.b < T.length) ∧ 0 ≤ o.c ∧ o.c < T.length := by omega
      obtain ⟨⟨A0, A1⟩, hA⟩ : ∃ A, minmax (refL (blankAt B o.f).i (blankAt B o.s).i T o k) = A := ⟨_, rfl⟩
      obtain ⟨⟨C0, C1⟩, hC⟩ : ∃ A, minmax (refL (blankAt B o.f).c (blankAt B o.s).c T o k) = A := ⟨_, rfl⟩
      obtain ⟨⟨A2, A3⟩, hA2⟩ : ∃ A, minmax (refL (blankAt B o.f).i (blankAt B o.s).i T o (k + 1)) = A := ⟨_, rfl⟩
      obtain ⟨⟨C2, C3⟩, hC2⟩ : ∃ A, minmax (refL (blankAt B o.f).c (blankAt B o.s).c T o (k + 1)) = A := ⟨_, rfl⟩
      rw [hA, hA2] at w1
      rw [hC, hC2] at w2
      simp (decide := true) (maxSteps := 4000000) only [go_sem, Nat.reduceAdd, Nat.reduceSub, Nat.reduceMul, Nat.reduceDiv, Nat.reduceMod, Nat.reduceLT, Nat.reduceLeDiff, Nat.reduceEqDiff, Nat.reduceBEq, Nat.reduceBNe, Nat.reduceGT, Int.reduceAdd, Int.reduceSub, Int.reduceMul, Int.reduceNeg, Int.reduceLT, Int.reduceLE, Int.reduceEq, Int.reduceNe, Int.reduceBEq, Int.reduceBNe, Int.reduceToNat, Int.reduceGT, Int.reduceGE, ↓reduceIte, decide_true, decide_false, eq_self, Nat.mul_one, Nat.zero_mul, Nat.one_mul, Int.le_refl, Nat.le_refl, Int.cast_ofNat_Int, hlt, hlz, hsh, q1, q2, unI_eq, cIx_len, cCo_len, cCu_len, p1, p2, Int.toNat_natCast, Span.cs, hA, hC, w1, w2, Span.t]
      refine hI1 _ ⟨k + 1, by omega⟩ (by simp only; omega) ?_
      simp (decide := true) (maxSteps := 4000000) only [go_sem, Nat.reduceAdd, Nat.reduceSub, Nat.reduceMul, Nat.reduceDiv, Nat.reduceMod, Nat.reduceLT, Nat.reduceLeDiff, Nat.reduceEqDiff, Nat.reduceBEq, Nat.reduceBNe, Nat.reduceGT, Int.reduceAdd, Int.reduceSub, Int.reduceMul, Int.reduceNeg, Int.reduceLT, Int.reduceLE, Int.reduceEq, Int.reduceNe, Int.reduceBEq, Int.reduceBNe, Int.reduceToNat, Int.reduceGT, Int.reduceGE, ↓reduceIte, decide_true, decide_false, eq_self, Nat.mul_one, Nat.zero_mul, Nat.one_mul, Int.le_refl, Nat.le_refl, Int.cast_ofNat_Int, hc1, hA2, hC2, Span.cs]
    · have hke : k = N := by omega
      subst hke
      simp (decide := true) (maxSteps := 4000000) only [go_sem, Nat.reduceAdd, Nat.reduceSub, Nat.reduceMul, Nat.reduceDiv, Nat.reduceMod, Nat.reduceLT, Nat.reduceLeDiff, Nat.reduceEqDiff, Nat.reduceBEq, Nat.reduceBNe, Nat.reduceGT, Int.reduceAdd, Int.reduceSub, Int.reduceMul, Int.reduceNeg, Int.reduceLT, Int.reduceLE, Int.reduceEq, Int.reduceNe, Int.reduceBEq, Int.reduceBNe, Int.reduceToNat, Int.reduceGT, Int.reduceGE, ↓reduceIte, decide_true, decide_false, eq_self, Nat.mul_one, Nat.zero_mul, Nat.one_mul, Int.le_refl, Nat.le_refl, Int.cast_ofNat_Int, hlt, hlz, hsh]
      refine hQ1 _ _ ?_
      simp (decide := true) (maxSteps := 4000000) only [go_sem, Nat.reduceAdd, Nat.reduceSub, Nat.reduceMul, Nat.reduceDiv, Nat.reduceMod, Nat.reduceLT, Nat.reduceLeDiff, Nat.reduceEqDiff, Nat.reduceBEq, Nat.reduceBNe, Nat.reduceGT, Int.reduceAdd, Int.reduceSub, Int.reduceMul, Int.reduceNeg, Int.reduceLT, Int.reduceLE, Int.reduceEq, Int.reduceNe, Int.reduceBEq, Int.reduceBNe, Int.reduceToNat, Int.reduceGT, Int.reduceGE, ↓reduceIte, decide_true, decide_false, eq_self, Nat.mul_one, Nat.zero_mul, Nat.one_mul, Int.le_refl, Nat.le_refl, Int.cast_ofNat_Int, Span.cs, Span.t]
noncomputable def rSpans : List TV → Option TV
  | [.agg [.sl cB n fB, .sl cT m fT], .agg [.int .i64 f, .int .i64 s, .int .i64 a, .int .i64 b, .int .i64 c]] => match unBlanks cB, unSpans cT with
    | some B, some T => if n = B.length ∧ m = T.length ∧ stockOk B T = true ∧ obOk B.length T.length ⟨f, s, a, b, c⟩ = true then some (.tup [(spansP B T ⟨f, s, a, b, c⟩).p.t, (spansP B T ⟨f, s, a, b, c⟩).c.t]) else none
    | _, _ => none
  | _ => none
theorem rSpans_ok : ∀ xs r, rSpans xs = some r → PCalls Try.prog 63 xs r := by
  intro xs r h
  unfold rSpans at h
  split at h
  · split at h
    · rename_i B T hB hT
      split at h
      · rename_i hc; cases h
        obtain ⟨rfl, rfl, h1, h2⟩ := hc
        rw [unBlanks_some hB, unSpans_some hT]
        exact r4Spans_c _ _ h1 ⟨_, _, _, _, _⟩ h2
      · cases h
    · cases h
  · cases h
attribute [go_sem] rSpans
noncomputable def spT1 : Pm.Spec := spS1.one 63 rSpans
@[go_sem] theorem spT1_p (f : FuncId) (xs : List TV) : spT1.p f xs = Pm.Spec.p (spS1.one 63 rSpans) f xs := rfl
@[go_sem] theorem spT1_h (f : FuncId) (ps : List PV) (hl : List PO) : spT1.h f ps hl = Pm.Spec.h (spS1.one 63 rSpans) f ps hl := rfl
@[go_sem] theorem spT1_fz (f : FuncId) : spT1.fz f = Pm.Spec.fz (spS1.one 63 rSpans) f := rfl
@[go_sem] theorem spT1_fr (f : FuncId) : spT1.fr f = Pm.Spec.fr (spS1.one 63 rSpans) f := rfl
@[go_sem] theorem spT1_mu (t : TypeId) : spT1.mu t = Pm.Spec.mu (spS1.one 63 rSpans) t := rfl
theorem spT1_ok : SpecOk Try.prog spT1 := Spec.one_ok rSpans_ok spS1_ok
theorem want0 : wantOk ⟨⟨0, 0⟩, 0⟩ = true := rfl
theorem r4SpansE_c {B : List Blank} {T : List Span} {sB sT : TV} (hB : IsRow Blank.cs sB B) (hT : IsRow Span.cs sT T) (hlB : B.length ≤ 5864062014806) (hlT : T.length ≤ 9000000000000) (o : Ob) : PCalls Try.prog 21 [.agg [sB, sT], o.t] (.tup [(spansE B T o).1.p.t, (spansE B T o).1.c.t, .int .i64 (spansE B T o).2]) := by
  have u1 : unBlanks [] = some [] := rfl
  have u2 : unSpans [] = some [] := rfl
  refine pcalls_by Try.mixes spT1_ok (fn := Try.f21) Try.func21 rfl (by kernel_rfl) (by show 2 ≤ _; decide) ?_
  unfold spansE
  cases hs : stockOk B T with
  | false => rcases hB with ⟨rfl, rfl⟩ | ⟨fB, rfl⟩ <;> rcases hT with ⟨rfl, rfl⟩ | ⟨fT, rfl⟩ <;> simp (decide := true) (maxSteps := 4000000) only [go_sem, Nat.reduceAdd, Nat.reduceSub, Nat.reduceMul, Nat.reduceDiv, Nat.reduceMod, Nat.reduceLT, Nat.reduceLeDiff, Nat.reduceEqDiff, Nat.reduceBEq, Nat.reduceBNe, Nat.reduceGT, Int.reduceAdd, Int.reduceSub, Int.reduceMul, Int.reduceNeg, Int.reduceLT, Int.reduceLE, Int.reduceEq, Int.reduceNe, Int.reduceBEq, Int.reduceBNe, Int.reduceToNat, Int.reduceGT, Int.reduceGE, ↓reduceIte, decide_true, decide_false, eq_self, Nat.mul_one, Nat.zero_mul, Nat.one_mul, Int.le_refl, Nat.le_refl, Int.cast_ofNat_Int, Try.f21, Ob.t, Ob.cs, u1, u2, hlB, hlT, askedG, hs, Span.t, Span.cs, List.length_nil]
  | true =>
    have hs' := stockOk_iff.1 hs
    obtain ⟨fB, rfl⟩ := hB.ne (by omega)
    obtain ⟨fT, rfl⟩ := hT.ne (by omega)
    cases ho : obOk B.length T.length o with
    | false => simp (decide := true) (maxSteps := 4000000) only [go_sem, Nat.reduceAdd, Nat.reduceSub, Nat.reduceMul, Nat.reduceDiv, Nat.reduceMod, Nat.reduceLT, Nat.reduceLeDiff, Nat.reduceEqDiff, Nat.reduceBEq, Nat.reduceBNe, Nat.reduceGT, Int.reduceAdd, Int.reduceSub, Int.reduceMul, Int.reduceNeg, Int.reduceLT, Int.reduceLE, Int.reduceEq, Int.reduceNe, Int.reduceBEq, Int.reduceBNe, Int.reduceToNat, Int.reduceGT, Int.reduceGE, ↓reduceIte, decide_true, decide_false, eq_self, Nat.mul_one, Nat.zero_mul, Nat.one_mul, Int.le_refl, Nat.le_refl, Int.cast_ofNat_Int, Try.f21, Ob.t, Ob.cs, hlB, hlT, askedG, want0, hs, ho, Span.t, Span.cs]
    | true => simp (decide := true) (maxSteps := 4000000) only [go_sem, Nat.reduceAdd, Nat.reduceSub, Nat.reduceMul, Nat.reduceDiv, Nat.reduceMod, Nat.reduceLT, Nat.reduceLeDiff, Nat.reduceEqDiff, Nat.reduceBEq, Nat.reduceBNe, Nat.reduceGT, Int.reduceAdd, Int.reduceSub, Int.reduceMul, Int.reduceNeg, Int.reduceLT, Int.reduceLE, Int.reduceEq, Int.reduceNe, Int.reduceBEq, Int.reduceBNe, Int.reduceToNat, Int.reduceGT, Int.reduceGE, ↓reduceIte, decide_true, decide_false, eq_self, Nat.mul_one, Nat.zero_mul, Nat.one_mul, Int.le_refl, Nat.le_refl, Int.cast_ofNat_Int, Try.f21, Ob.t, Ob.cs, hlB, hlT, askedG, want0, hs, ho, Span.t, Span.cs]
theorem worst_eq {c : Span} (h1 : -4000000000000000000 ≤ c.lo) (h2 : c.lo ≤ c.hi) (h3 : c.hi ≤ 4000000000000000000) : max (max c.lo (IntKind.i64.wrap (0 - c.lo))) (max c.hi (IntKind.i64.wrap (0 - c.hi))) = worstS c := by
  unfold worstS
  rw [wrap_in (by omega) (by omega), wrap_in (by omega) (by omega)]
  omega
theorem r4Good_c {B : List Blank} {T : List Span} (fB fT : Bool) (hs : stockOk B T = true) (w : Want) (o : Ob) (ho : obOk B.length T.length o = true) : PCalls Try.prog 66 [.agg [.sl (B.flatMap Blank.cs) B.length fB, .sl (T.flatMap Span.cs) T.length fT], w.t, o.t] (.tup [.bool (goodB (spansP B T o) w), .int .i64 (worstS (spansP B T o).c)]) := by
  have hb := spansP_bound hs ho
  have hw := worst_eq (c := (spansP B T o).c) (by omega) (by omega) (by omega)
  refine pcalls_by Try.mixes spT1_ok (fn := Try.f66) Try.func66 rfl (by kernel_rfl) (by show 3 ≤ _; decide) ?_
  unfold goodB
  simp (decide := true) (maxSteps := 4000000) only [go_sem, Nat.reduceAdd, Nat.reduceSub, Nat.reduceMul, Nat.reduceDiv, Nat.reduceMod, Nat.reduceLT, Nat.reduceLeDiff, Nat.reduceEqDiff, Nat.reduceBEq, Nat.reduceBNe, Nat.reduceGT, Int.reduceAdd, Int.reduceSub, Int.reduceMul, Int.reduceNeg, Int.reduceLT, Int.reduceLE, Int.reduceEq, Int.reduceNe, Int.reduceBEq, Int.reduceBNe, Int.reduceToNat, Int.reduceGT, Int.reduceGE, ↓reduceIte, decide_true, decide_false, eq_self, Nat.mul_one, Nat.zero_mul, Nat.one_mul, Int.le_refl, Nat.le_refl, Int.cast_ofNat_Int, Try.f66, Ob.t, Ob.cs, Want.t, hs, ho, Span.t, Span.cs, hw]
end Go.Proofs.Ytcjcnmpecmbdeaa

/- Part Gy. -/
namespace Go.Proofs.Ytcjcnmpecmbdeaa
open Go.RowKit Go.Pm Go.Oc
set_option maxRecDepth 100000
set_option linter.unusedVariables false
set_option maxHeartbeats 4000000

noncomputable def rGoodV : List TV → Option TV
  | [.agg [.sl cB n fB, .sl cT m fT], .agg [.int .i64 x, .int .i64 y, .int .i64 z], .agg [.int .i64 f, .int .i64 s, .int .i64 a, .int .i64 b, .int .i64 c]] => match unBlanks cB, unSpans cT with
    | some B, some T => if n = B.length ∧ m = T.length ∧ stockOk B T = true ∧ obOk B.length T.length ⟨f, s, a, b, c⟩ = true then some (.tup [.bool (goodB (spansP B T ⟨f, s, a, b, c⟩) ⟨⟨x, y⟩, z⟩), .int .i64 (worstS (spansP B T ⟨f, s, a, b, c⟩).c)]) else none
    | _, _ => none
  | _ => none
theorem rGoodV_ok : ∀ xs r, rGoodV xs = some r → PCalls Try.prog 66 xs r := by
  intro xs r h
  unfold rGoodV at h
  split at h
  · split at h
    · rename_i B T hB hT
      split at h
      · rename_i hc; cases h
        obtain ⟨rfl, rfl, h1, h2⟩ := hc
        rw [unBlanks_some hB, unSpans_some hT]
        exact r4Good_c _ _ h1 ⟨⟨_, _⟩, _⟩ ⟨_, _, _, _, _⟩ h2
      · cases h
    · cases h
  · cases h
attribute [go_sem] rGoodV
noncomputable def spY1 : Pm.Spec := spT1.one 66 rGoodV
@[go_sem] theorem spY1_p (f : FuncId) (xs : List TV) : spY1.p f xs = Pm.Spec.p (spT1.one 66 rGoodV) f xs := rfl
@[go_sem] theorem spY1_h (f : FuncId) (ps : List PV) (hl : List PO) : spY1.h f ps hl = Pm.Spec.h (spT1.one 66 rGoodV) f ps hl := rfl
@[go_sem] theorem spY1_fz (f : FuncId) : spY1.fz f = Pm.Spec.fz (spT1.one 66 rGoodV) f := rfl
@[go_sem] theorem spY1_fr (f : FuncId) : spY1.fr f = Pm.Spec.fr (spT1.one 66 rGoodV) f := rfl
@[go_sem] theorem spY1_mu (t : TypeId) : spY1.mu t = Pm.Spec.mu (spT1.one 66 rGoodV) t := rfl
theorem spY1_ok : SpecOk Try.prog spY1 := Spec.one_ok rGoodV_ok spT1_ok
theorem r4GoodE_c {B : List Blank} {T : List Span} {sB sT : TV} (hB : IsRow Blank.cs sB B) (hT : IsRow Span.cs sT T) (hlB : B.length ≤ 5864062014806) (hlT : T.length ≤ 9000000000000) (w : Want) (o : Ob) : PCalls Try.prog 24 [.agg [sB, sT], w.t, o.t] (.tup [.bool (goodE B T w o).1, .int .i64 (goodE B T w o).2]) := by
  have u1 : unBlanks [] = some [] := rfl
  have u2 : unSpans [] = some [] := rfl
  refine pcalls_by Try.mixes spY1_ok (fn := Try.f24) Try.func24 rfl (by kernel_rfl) (by show 3 ≤ _; decide) ?_
  unfold goodE askedG
  cases hs : stockOk B T with
  | false => rcases hB with ⟨rfl, rfl⟩ | ⟨fB, rfl⟩ <;> rcases hT with ⟨rfl, rfl⟩ | ⟨fT, rfl⟩ <;> simp (decide := true) (maxSteps := 4000000) only [go_sem, Nat.reduceAdd, Nat.reduceSub, Nat.reduceMul, Nat.reduceDiv, Nat.reduceMod, Nat.reduceLT, Nat.reduceLeDiff, Nat.reduceEqDiff, Nat.reduceBEq, Nat.reduceBNe, Nat.reduceGT, Int.reduceAdd, Int.reduceSub, Int.reduceMul, Int.reduceNeg, Int.reduceLT, Int.reduceLE, Int.reduceEq, Int.reduceNe, Int.reduceBEq, Int.reduceBNe, Int.reduceToNat, Int.reduceGT, Int.reduceGE, ↓reduceIte, decide_true, decide_false, eq_self, Nat.mul_one, Nat.zero_mul, Nat.one_mul, Int.le_refl, Nat.le_refl, Int.cast_ofNat_Int, Try.f24, Ob.t, Ob.cs, Want.t, u1, u2, hlB, hlT, askedG, hs, List.length_nil]
  | true =>
    have hs' := stockOk_iff.1 hs
    obtain ⟨fB, rfl⟩ := hB.ne (by omega)
    obtain ⟨fT, rfl⟩ := hT.ne (by omega)
    cases hw : wantOk w with
    | false => simp (decide := true) (maxSteps := 4000000) only [go_sem, Nat.reduceAdd, Nat.reduceSub, Nat.reduceMul, Nat.reduceDiv, Nat.reduceMod, Nat.reduceLT, Nat.reduceLeDiff, Nat.reduceEqDiff, Nat.reduceBEq, Nat.reduceBNe, Nat.reduceGT, Int.reduceAdd, Int.reduceSub, Int.reduceMul, Int.reduceNeg, Int.reduceLT, Int.reduceLE, Int.reduceEq, Int.reduceNe, Int.reduceBEq, Int.reduceBNe, Int.reduceToNat, Int.reduceGT, Int.reduceGE, ↓reduceIte, decide_true, decide_false, eq_self, Nat.mul_one, Nat.zero_mul, Nat.one_mul, Int.le_refl, Nat.le_refl, Int.cast_ofNat_Int, Try.f24, Ob.t, Ob.cs, Want.t, hlB, hlT, askedG, hs, hw]
    | true =>
      cases ho : obOk B.length T.length o with
      | false => simp (decide := true) (maxSteps := 4000000) only [go_sem, Nat.reduceAdd, Nat.reduceSub, Nat.reduceMul, Nat.reduceDiv, Nat.reduceMod, Nat.reduceLT, Nat.reduceLeDiff, Nat.reduceEqDiff, Nat.reduceBEq, Nat.reduceBNe, Nat.reduceGT, Int.reduceAdd, Int.reduceSub, Int.reduceMul, Int.reduceNeg, Int.reduceLT, Int.reduceLE, Int.reduceEq, Int.reduceNe, Int.reduceBEq, Int.reduceBNe, Int.reduceToNat, Int.reduceGT, Int.reduceGE, ↓reduceIte, decide_true, decide_false, eq_self, Nat.mul_one, Nat.zero_mul, Nat.one_mul, Int.le_refl, Nat.le_refl, Int.cast_ofNat_Int, Try.f24, Ob.t, Ob.cs, Want.t, hlB, hlT, askedG, hs, hw, ho]
      | true => simp (decide := true) (maxSteps := 4000000) only [go_sem, Nat.reduceAdd, Nat.reduceSub, Nat.reduceMul, Nat.reduceDiv, Nat.reduceMod, Nat.reduceLT, Nat.reduceLeDiff, Nat.reduceEqDiff, Nat.reduceBEq, Nat.reduceBNe, Nat.reduceGT, Int.reduceAdd, Int.reduceSub, Int.reduceMul, Int.reduceNeg, Int.reduceLT, Int.reduceLE, Int.reduceEq, Int.reduceNe, Int.reduceBEq, Int.reduceBNe, Int.reduceToNat, Int.reduceGT, Int.reduceGE, ↓reduceIte, decide_true, decide_false, eq_self, Nat.mul_one, Nat.zero_mul, Nat.one_mul, Int.le_refl, Nat.le_refl, Int.cast_ofNat_Int, Try.f24, Ob.t, Ob.cs, Want.t, hlB, hlT, askedG, hs, hw, ho]
theorem r4Seen_c {B : List Blank} {T : List Span} {sB sT sI sC sK : TV} {ix co cu : List Int} (hB : IsRow Blank.cs sB B) (hT : IsRow Span.cs sT T) (hlB : B.length ≤ 5864062014806) (hlT : T.length ≤ 9000000000000) (hI : IsRow ic sI ix) (hC : IsRow ic sC co) (hK : IsRow ic sK cu) (o : Ob) :
    PCalls Try.prog 17 [.agg [sB, sT], o.t, .agg [sI, sC, sK]] (.tup [.int .i64 (seenP B T o ix co cu).1, .int .i64 (seenP B T o ix co cu).2.1, .int .i64 (seenP B T o ix co cu).2.2]) := by
  have u1 : unBlanks [] = some [] := rfl
  have u2 : unSpans [] = some [] := rfl
  refine pcalls_by Try.mixes spY1_ok (fn := Try.f17) Try.func17 rfl (by kernel_rfl) (by show 3 ≤ _; decide) ?_
  unfold seenP
  cases hs : stockOk B T with
  | false => rcases hB with ⟨rfl, rfl⟩ | ⟨fB, rfl⟩ <;> rcases hT with ⟨rfl, rfl⟩ | ⟨fT, rfl⟩ <;> simp (decide := true) (maxSteps := 4000000) only [go_sem, Nat.reduceAdd, Nat.reduceSub, Nat.reduceMul, Nat.reduceDiv, Nat.reduceMod, Nat.reduceLT, Nat.reduceLeDiff, Nat.reduceEqDiff, Nat.reduceBEq, Nat.reduceBNe, Nat.reduceGT, Int.reduceAdd, Int.reduceSub, Int.reduceMul, Int.reduceNeg, Int.reduceLT, Int.reduceLE, Int.reduceEq, Int.reduceNe, Int.reduceBEq, Int.reduceBNe, Int.reduceToNat, Int.reduceGT, Int.reduceGE, ↓reduceIte, decide_true, decide_false, eq_self, Nat.mul_one, Nat.zero_mul, Nat.one_mul, Int.le_refl, Nat.le_refl, Int.cast_ofNat_Int, Try.f17, Ob.t, Ob.cs, u1, u2, hlB, hlT, askedG, hs, List.length_nil]
  | true =>
    have hs' := stockOk_iff.1 hs
    obtain ⟨fB, rfl⟩ := hB.ne (by omega)
    obtain ⟨fT, rfl⟩ := hT.ne (by omega)
    cases ho : obOk B.length T.length o with
    | false => simp (decide := true) (maxSteps := 4000000) only [go_sem, Nat.reduceAdd, Nat.reduceSub, Nat.reduceMul, Nat.reduceDiv, Nat.reduceMod, Nat.reduceLT, Nat.reduceLeDiff, Nat.reduceEqDiff, Nat.reduceBEq, Nat.reduceBNe, Nat.reduceGT, Int.reduceAdd, Int.reduceSub, Int.reduceMul, Int.reduceNeg, Int.reduceLT, Int.reduceLE, Int.reduceEq, Int.reduceNe, Int.reduceBEq, Int.reduceBNe, Int.reduceToNat, Int.reduceGT, Int.reduceGE, ↓reduceIte, decide_true, decide_false, eq_self, Nat.mul_one, Nat.zero_mul, Nat.one_mul, Int.le_refl, Nat.le_refl, Int.cast_ofNat_Int, Try.f17, Ob.t, Ob.cs, hlB, hlT, askedG, want0, hs, ho]
    | true =>
      have ho' := obOk_iff.1 ho
      have z0 : ((0 : Int) == (B.length : Int)) = false := beq_int_f (by omega)
      have z1 : ((0 : Int) == (T.length : Int)) = false := beq_int_f (by omega)
      have no : ∀ (l1 l2 : Nat), True := fun _ _ => trivial
      by_cases hl1 : ix.length = B.length
      · obtain ⟨fI, rfl⟩ := hI.ne (by omega)
        have h1 : ((ix.length : Int) == (B.length : Int)) = true := beq_int_t (by omega)
        by_cases hl2 : co.length = B.length
        · obtain ⟨fC, rfl⟩ := hC.ne (by omega)
          have h2 : ((co.length : Int) == (B.length : Int)) = true := beq_int_t (by omega)
          by_cases hl3 : cu.length = T.length
          · obtain ⟨fK, rfl⟩ := hK.ne (by omega)
            have h3 : ((cu.length : Int) == (T.length : Int)) = true := beq_int_t (by omega)
            have hto : truthOk B T ix co cu = (tOkB B ix co B.length && tOkT T cu T.length) := by unfold truthOk; simp [hl1, hl2, hl3]
            rw [hto]
            simp (decide := true) (maxSteps := 4000000) only [go_sem, Nat.reduceAdd, Nat.reduceSub, Nat.reduceMul, Nat.reduceDiv, Nat.reduceMod, Nat.reduceLT, Nat.reduceLeDiff, Nat.reduceEqDiff, Nat.reduceBEq, Nat.reduceBNe, Nat.reduceGT, Int.reduceAdd, Int.reduceSub, Int.reduceMul, Int.reduceNeg, Int.reduceLT, Int.reduceLE, Int.reduceEq, Int.reduceNe, Int.reduceBEq, Int.reduceBNe, Int.reduceToNat, Int.reduceGT, Int.reduceGE, ↓reduceIte, decide_true, decide_false, eq_self, Nat.mul_one, Nat.zero_mul, Nat.one_mul, Int.le_refl, Nat.le_refl, Int.cast_ofNat_Int, Try.f17, Ob.t, Ob.cs, hlB, hlT, askedG, want0, hs, ho, h1, h2, h3, ic_ints]
            refine pwpC_loopU (A := { k : Nat // k ≤ B.length }) [3, 4, 5] (fun k => [(11, .t (.int .i64 k.1)), (10, .t (.bool (tOkB B ix co k.1)))]) (fun _ => []) (fun k => B.length - k.1) ⟨0, by omega⟩ (by decide) (fun _ => by rfl) ?_ fun Q1 hQ1 ⟨k, hk⟩ I1 hI1 => ?_
            · simp (decide := true) (maxSteps := 4000000) only [go_sem, Nat.reduceAdd, Nat.reduceSub, Nat.reduceMul, Nat.reduceDiv, Nat.reduceMod, Nat.reduceLT, Nat.reduceLeDiff, Nat.reduceEqDiff, Nat.reduceBEq, Nat.reduceBNe, Nat.reduceGT, Int.reduceAdd, Int.reduceSub, Int.reduceMul, Int.reduceNeg, Int.reduceLT, Int.reduceLE, Int.reduceEq, Int.reduceNe, Int.reduceBEq, Int.reduceBNe, Int.reduceToNat, Int.reduceGT, Int.reduceGE, ↓reduceIte, decide_true, decide_false, eq_self, Nat.mul_one, Nat.zero_mul, Nat.one_mul, Int.le_refl, Nat.le_refl, Int.cast_ofNat_Int, tOkB, List.range_zero, List.all_nil]
              first | done | rfl
            · rcases (Bool.eq_false_or_eq_true (tOkB B ix co k)).symm with hok | hok
              · have hno := tOkB_no hok hk
                simp (decide := true) (maxSteps := 4000000) only [go_sem, Nat.reduceAdd, Nat.reduceSub, Nat.reduceMul, Nat.reduceDiv, Nat.reduceMod, Nat.reduceLT, Nat.reduceLeDiff, Nat.reduceEqDiff, Nat.reduceBEq, Nat.reduceBNe, Nat.reduceGT, Int.reduceAdd, Int.reduceSub, Int.reduceMul, Int.reduceNeg, Int.reduceLT, Int.reduceLE, Int.reduceEq, Int.reduceNe, Int.reduceBEq, Int.reduceBNe, Int.reduceToNat, Int.reduceGT, Int.reduceGE, ↓reduceIte, decide_true, decide_false, eq_self, Nat.mul_one, Nat.zero_mul, Nat.one_mul, Int.le_refl, Nat.le_refl, Int.cast_ofNat_Int, hok]
                refine hQ1 _ _ ?_
                simp (decide := true) (maxSteps := 4000000) only [go_sem, Nat.reduceAdd, Nat.reduceSub, Nat.reduceMul, Nat.reduceDiv, Nat.reduceMod, Nat.reduceLT, Nat.reduceLeDiff, Nat.reduceEqDiff, Nat.reduceBEq, Nat.reduceBNe, Nat.reduceGT, Int.reduceAdd, Int.reduceSub, Int.reduceMul, Int.reduceNeg, Int.reduceLT, Int.reduceLE, Int.reduceEq, Int.reduceNe, Int.reduceBEq, Int.reduceBNe, Int.reduceToNat, Int.reduceGT, Int.reduceGE, ↓reduceIte, decide_true, decide_false, eq_self, Nat.mul_one, Nat.zero_mul, Nat.one_mul, Int.le_refl, Nat.le_refl, Int.cast_ofNat_Int]
                refine pwpC_loopU (A := Unit) [3, 4, 5] (fun _ => [(12, .t (.int .i64 0)), (10, .t (.bool false))]) (fun _ => []) (fun _ => 0) () (by decide) (fun _ => by rfl) ?_ fun Q2 hQ2 _ I2 hI2 => ?_
                · simp (decide := true) (maxSteps := 4000000) only [go_sem, Nat.reduceAdd, Nat.reduceSub, Nat.reduceMul, Nat.reduceDiv, Nat.reduceMod, Nat.reduceLT, Nat.reduceLeDiff, Nat.reduceEqDiff, Nat.reduceBEq, Nat.reduceBNe, Nat.reduceGT, Int.reduceAdd, Int.reduceSub, Int.reduceMul, Int.reduceNeg, Int.reduceLT, Int.reduceLE, Int.reduceEq, Int.reduceNe, Int.reduceBEq, Int.reduceBNe, Int.reduceToNat, Int.reduceGT, Int.reduceGE, ↓reduceIte, decide_true, decide_false, eq_self, Nat.mul_one, Nat.zero_mul, Nat.one_mul, Int.le_refl, Nat.le_refl, Int.cast_ofNat_Int, hok]
                · simp (decide := true) (maxSteps := 4000000) only [go_sem, Nat.reduceAdd, Nat.reduceSub, Nat.reduceMul, Nat.reduceDiv, Nat.reduceMod, Nat.reduceLT, Nat.reduceLeDiff, Nat.reduceEqDiff, Nat.reduceBEq, Nat.reduceBNe, Nat.reduceGT, Int.reduceAdd, Int.reduceSub, Int.reduceMul, Int.reduceNeg, Int.reduceLT, Int.reduceLE, Int.reduceEq, Int.reduceNe, Int.reduceBEq, Int.reduceBNe, Int.reduceToNat, Int.reduceGT, Int.reduceGE, ↓reduceIte, decide_true, decide_false, eq_self, Nat.mul_one, Nat.zero_mul, Nat.one_mul, Int.le_refl, Nat.le_refl, Int.cast_ofNat_Int]
                  refine hQ2 _ _ ?_
                  simp (decide := true) (maxSteps := 4000000) only [go_sem, Nat.reduceAdd, Nat.reduceSub, Nat.reduceMul, Nat.reduceDiv, Nat.reduceMod, Nat.reduceLT, Nat.reduceLeDiff, Nat.reduceEqDiff, Nat.reduceBEq, Nat.reduceBNe, Nat.reduceGT, Int.reduceAdd, Int.reduceSub, Int.reduceMul, Int.reduceNeg, Int.reduceLT, Int.reduceLE, Int.reduceEq, Int.reduceNe, Int.reduceBEq, Int.reduceBNe, Int.reduceToNat, Int.reduceGT, Int.reduceGE, ↓reduceIte, decide_true, decide_false, eq_self, Nat.mul_one, Nat.zero_mul, Nat.one_mul, Int.le_refl, Nat.le_refl, Int.cast_ofNat_Int, hno, Bool.false_and]
              · by_cases hlt : (k : Int) < B.length
                · obtain ⟨x, hx⟩ := get_lt hlt
                  obtain ⟨v, hv⟩ := get_lt (l := ix) (k := k) (by omega)
                  obtain ⟨u, hu⟩ := get_lt (l := co) (k := k) (by omega)
                  have lv : (k : Int) < ix.length := by omega
                  have lu : (k : Int) < co.length := by omega
                  have dx := flat_at Blank.cs (n := 5) (fun _ => rfl) hx
                  have dv := ints_at hv
                  have du := ints_at hu
                  rw [Nat.mul_one] at dv du
                  have hc1 : IntKind.i64.wrap (k + 1) = ((k + 1 : Nat) : Int) := by rw [wrap_in (by omega) (by omega)]; omega
                  have hsu := tOkB_succ B ix co k
                  rw [nth_eq hv, nth_eq hu, blankAt_eq hx] at hsu
                  cases h4 : inB v x.i.lo x.i.hi <;> cases h5 : inB u x.c.lo x.c.hi <;> rw [hok, h4, h5] at hsu
                  all_goals simp (decide := true) (maxSteps := 4000000) only [go_sem, Nat.reduceAdd, Nat.reduceSub, Nat.reduceMul, Nat.reduceDiv, Nat.reduceMod, Nat.reduceLT, Nat.reduceLeDiff, Nat.reduceEqDiff, Nat.reduceBEq, Nat.reduceBNe, Nat.reduceGT, Int.reduceAdd, Int.reduceSub, Int.reduceMul, Int.reduceNeg, Int.reduceLT, Int.reduceLE, Int.reduceEq, Int.reduceNe, Int.reduceBEq, Int.reduceBNe, Int.reduceToNat, Int.reduceGT, Int.reduceGE, ↓reduceIte, decide_true, decide_false, eq_self, Nat.mul_one, Nat.zero_mul, Nat.one_mul, Int.le_refl, Nat.le_refl, Int.cast_ofNat_Int, hlt, lv, lu, dx, Blank.cs, dv, du, hok, h4, h5, Int.toNat_natCast]
                  all_goals refine hI1 _ ⟨k + 1, by omega⟩ (by simp only; omega) ?_
                  all_goals simp (decide := true) (maxSteps := 4000000) only [go_sem, Nat.reduceAdd, Nat.reduceSub, Nat.reduceMul, Nat.reduceDiv, Nat.reduceMod, Nat.reduceLT, Nat.reduceLeDiff, Nat.reduceEqDiff, Nat.reduceBEq, Nat.reduceBNe, Nat.reduceGT, Int.reduceAdd, Int.reduceSub, Int.reduceMul, Int.reduceNeg, Int.reduceLT, Int.reduceLE, Int.reduceEq, Int.reduceNe, Int.reduceBEq, Int.reduceBNe, Int.reduceToNat, Int.reduceGT, Int.reduceGE, ↓reduceIte, decide_true, decide_false, eq_self, Nat.mul_one, Nat.zero_mul, Nat.one_mul, Int.le_refl, Nat.le_refl, Int.cast_ofNat_Int, hc1, hsu, Bool.and_true, Bool.and_false, Bool.and_self, Bool.false_and]
                · have hke : k = B.length := by omega
                  subst hke
                  simp (decide := true) (maxSteps := 4000000) only [go_sem, Nat.reduceAdd, Nat.reduceSub, Nat.reduceMul, Nat.reduceDiv, Nat.reduceMod, Nat.reduceLT, Nat.reduceLeDiff, Nat.reduceEqDiff, Nat.reduceBEq, Nat.reduceBNe, Nat.reduceGT, Int.reduceAdd, Int.reduceSub, Int.reduceMul, Int.reduceNeg, Int.reduceLT, Int.reduceLE, Int.reduceEq, Int.reduceNe, Int.reduceBEq, Int.reduceBNe, Int.reduceToNat, Int.reduceGT, Int.reduceGE, ↓reduceIte, decide_true, decide_false, eq_self, Nat.mul_one, Nat.zero_mul, Nat.one_mul, Int.le_refl, Nat.le_refl, Int.cast_ofNat_Int, hlt, hok]
                  refine hQ1 _ _ ?_
                  simp (decide := true) (maxSteps := 4000000) only [go_sem, Nat.reduceAdd, Nat.reduceSub, Nat.reduceMul, Nat.reduceDiv, Nat.reduceMod, Nat.reduceLT, Nat.reduceLeDiff, Nat.reduceEqDiff, Nat.reduceBEq, Nat.reduceBNe, Nat.reduceGT, Int.reduceAdd, Int.reduceSub, Int.reduceMul, Int.reduceNeg, Int.reduceLT, Int.reduceLE, Int.reduceEq, Int.reduceNe, Int.reduceBEq, Int.reduceBNe, Int.reduceToNat, Int.reduceGT, Int.reduceGE, ↓reduceIte, decide_true, decide_false, eq_self, Nat.mul_one, Nat.zero_mul, Nat.one_mul, Int.le_refl, Nat.le_refl, Int.cast_ofNat_Int]
                  refine pwpC_loopU (A := { k : Nat // k ≤ T.length }) [3, 4, 5] (fun k => [(12, .t (.int .i64 k.1)), (10, .t (.bool (tOkT T cu k.1)))]) (fun _ => []) (fun k => T.length - k.1) ⟨0, by omega⟩ (by decide) (fun _ => by rfl) ?_ fun Q2 hQ2 ⟨m, hm⟩ I2 hI2 => ?_
                  · simp (decide := true) (maxSteps := 4000000) only [go_sem, Nat.reduceAdd, Nat.reduceSub, Nat.reduceMul, Nat.reduceDiv, Nat.reduceMod, Nat.reduceLT, Nat.reduceLeDiff, Nat.reduceEqDiff, Nat.reduceBEq, Nat.reduceBNe, Nat.reduceGT, Int.reduceAdd, Int.reduceSub, Int.reduceMul, Int.reduceNeg, Int.reduceLT, Int.reduceLE, Int.reduceEq, Int.reduceNe, Int.reduceBEq, Int.reduceBNe, Int.reduceToNat, Int.reduceGT, Int.reduceGE, ↓reduceIte, decide_true, decide_false, eq_self, Nat.mul_one, Nat.zero_mul, Nat.one_mul, Int.le_refl, Nat.le_refl, Int.cast_ofNat_Int, hok, tOkT, List.range_zero, List.all_nil]
                    first | done | rfl
                  · rcases (Bool.eq_false_or_eq_true (tOkT T cu m)).symm with hok2 | hok2
                    · have hno := tOkT_no hok2 hm
                      simp (decide := true) (maxSteps := 4000000) only [go_sem, Nat.reduceAdd, Nat.reduceSub, Nat.reduceMul, Nat.reduceDiv, Nat.reduceMod, Nat.reduceLT, Nat.reduceLeDiff, Nat.reduceEqDiff, Nat.reduceBEq, Nat.reduceBNe, Nat.reduceGT, Int.reduceAdd, Int.reduceSub, Int.reduceMul, Int.reduceNeg, Int.reduceLT, Int.reduceLE, Int.reduceEq, Int.reduceNe, Int.reduceBEq, Int.reduceBNe, Int.reduceToNat, Int.reduceGT, Int.reduceGE, ↓reduceIte, decide_true, decide_false, eq_self, Nat.mul_one, Nat.zero_mul, Nat.one_mul, Int.le_refl, Nat.le_refl, Int.cast_ofNat_Int, hok2]
                      refine hQ2 _ _ ?_
                      simp (decide := true) (maxSteps := 4000000) only [go_sem, Nat.reduceAdd, Nat.reduceSub, Nat.reduceMul, Nat.reduceDiv, Nat.reduceMod, Nat.reduceLT, Nat.reduceLeDiff, Nat.reduceEqDiff, Nat.reduceBEq, Nat.reduceBNe, Nat.reduceGT, Int.reduceAdd, Int.reduceSub, Int.reduceMul, Int.reduceNeg, Int.reduceLT, Int.reduceLE, Int.reduceEq, Int.reduceNe, Int.reduceBEq, Int.reduceBNe, Int.reduceToNat, Int.reduceGT, Int.reduceGE, ↓reduceIte, decide_true, decide_false, eq_self, Nat.mul_one, Nat.zero_mul, Nat.one_mul, Int.le_refl, Nat.le_refl, Int.cast_ofNat_Int, hno, hok2, Bool.and_false]
                    · by_cases hlt2 : (m : Int) < T.length
                      · obtain ⟨y, hy⟩ := get_lt hlt2
                        obtain ⟨v, hv⟩ := get_lt (l := cu) (k := m) (by omega)
                        have lv : (m : Int) < cu.length := by omega
                        have dy := flat_at Span.cs (n := 2) (fun _ => rfl) hy
                        have dv := ints_at hv
                        rw [Nat.mul_one] at dv
                        have hc1 : IntKind.i64.wrap (m + 1) = ((m + 1 : Nat) : Int) := by rw [wrap_in (by omega) (by omega)]; omega
                        have hsu := tOkT_succ T cu m
                        rw [nth_eq hv, toolAt_eq hy, hok2, Bool.true_and] at hsu
                        simp (decide := true) (maxSteps := 4000000) only [go_sem, Nat.reduceAdd, Nat.reduceSub, Nat.reduceMul, Nat.reduceDiv, Nat.reduceMod, Nat.reduceLT, Nat.reduceLeDiff, Nat.reduceEqDiff, Nat.reduceBEq, Nat.reduceBNe, Nat.reduceGT, Int.reduceAdd, Int.reduceSub, Int.reduceMul, Int.reduceNeg, Int.reduceLT, Int.reduceLE, Int.reduceEq, Int.reduceNe, Int.reduceBEq, Int.reduceBNe, Int.reduceToNat, Int.reduceGT, Int.reduceGE, ↓reduceIte, decide_true, decide_false, eq_self, Nat.mul_one, Nat.zero_mul, Nat.one_mul, Int.le_refl, Nat.le_refl, Int.cast_ofNat_Int, hlt2, lv, dy, Span.cs, dv, hok2, Int.toNat_natCast]
                        refine hI2 _ ⟨m + 1, by omega⟩ (by simp only; omega) ?_
                        simp (decide := true) (maxSteps := 4000000) only [go_sem, Nat.reduceAdd, Nat.reduceSub, Nat.reduceMul, Nat.reduceDiv, Nat.reduceMod, Nat.reduceLT, Nat.reduceLeDiff, Nat.reduceEqDiff, Nat.reduceBEq, Nat.reduceBNe, Nat.reduceGT, Int.reduceAdd, Int.reduceSub, Int.reduceMul, Int.reduceNeg, Int.reduceLT, Int.reduceLE, Int.reduceEq, Int.reduceNe, Int.reduceBEq, Int.reduceBNe, Int.reduceToNat, Int.reduceGT, Int.reduceGE, ↓reduceIte, decide_true, decide_false, eq_self, Nat.mul_one, Nat.zero_mul, Nat.one_mul, Int.le_refl, Nat.le_refl, Int.cast_ofNat_Int, hc1, hsu]
                      · have hme : m = T.length := by omega
                        subst hme
                        have hk2 : (tOkB B ix co B.length && tOkT T cu T.length) = true := by rw [hok, hok2]; rfl
                        have q : (0 ≤ o.f ∧ o.f < ix.length) ∧ (0 ≤ o.s ∧ o.s < ix.length) ∧ co.length = ix.length ∧ (0 ≤ o.a ∧ o.a < cu.length) ∧ (0 ≤ o.b ∧ o.b < cu.length) ∧ 0 ≤ o.c ∧ o.c < cu.length := by omega
                        have fB_ : ∀ t : Int, 0 ≤ t → t < B.length → (1 ≤ nth ix t ∧ nth ix t ≤ 100000) ∧ 1 ≤ nth co t ∧ nth co t ≤ 5000 := by
                          intro t g0 g1
                          obtain ⟨j, rfl⟩ := Int.eq_ofNat_of_zero_le g0
                          have r := tOkB_at hok (i := j) (by omega)
                          have z := blank_ok hs g0 g1
                          omega
                        have fT_ : ∀ t : Int, 0 ≤ t → t < T.length → -1000 ≤ nth cu t ∧ nth cu t ≤ 1000 := by
                          intro t g0 g1
                          obtain ⟨j, rfl⟩ := Int.eq_ofNat_of_zero_le g0
                          have r := tOkT_at hok2 (i := j) (by omega)
                          have z := tool_ok hs g0 g1
                          omega
                        have g1 := fB_ o.f (by omega) (by omega)
                        have g2 := fB_ o.s (by omega) (by omega)
                        have g3 := fT_ o.a (by omega) (by omega)
                        have g4 := fT_ o.b (by omega) (by omega)
                        have g5 := fT_ o.c (by omega) (by omega)
                        have q1 : pwW (nth ix o.f) (nth ix o.s) (nth cu o.a) (nth cu o.b) (nth cu o.c) = pw (nth ix o.f) (nth ix o.s) (nth cu o.a) (nth cu o.b) (nth cu o.c) := (pw_wrap (by omega) (by omega) (by omega) (by omega) (by omega)).1
                        have q2 : pwW (nth co o.f) (nth co o.s) (nth cu o.a) (nth cu o.b) (nth cu o.c) = pw (nth co o.f) (nth co o.s) (nth cu o.a) (nth cu o.b) (nth cu o.c) := (pw_wrap (by omega) (by omega) (by omega) (by omega) (by omega)).1
                        simp (decide := true) (maxSteps := 4000000) only [go_sem, Nat.reduceAdd, Nat.reduceSub, Nat.reduceMul, Nat.reduceDiv, Nat.reduceMod, Nat.reduceLT, Nat.reduceLeDiff, Nat.reduceEqDiff, Nat.reduceBEq, Nat.reduceBNe, Nat.reduceGT, Int.reduceAdd, Int.reduceSub, Int.reduceMul, Int.reduceNeg, Int.reduceLT, Int.reduceLE, Int.reduceEq, Int.reduceNe, Int.reduceBEq, Int.reduceBNe, Int.reduceToNat, Int.reduceGT, Int.reduceGE, ↓reduceIte, decide_true, decide_false, eq_self, Nat.mul_one, Nat.zero_mul, Nat.one_mul, Int.le_refl, Nat.le_refl, Int.cast_ofNat_Int, hlt2, hok2]
                        refine hQ2 _ _ ?_
                        simp (decide := true) (maxSteps := 4000000) only [go_sem, Nat.reduceAdd, Nat.reduceSub, Nat.reduceMul, Nat.reduceDiv, Nat.reduceMod, Nat.reduceLT, Nat.reduceLeDiff, Nat.reduceEqDiff, Nat.reduceBEq, Nat.reduceBNe, Nat.reduceGT, Int.reduceAdd, Int.reduceSub, Int.reduceMul, Int.reduceNeg, Int.reduceLT, Int.reduceLE, Int.reduceEq, Int.reduceNe, Int.reduceBEq, Int.reduceBNe, Int.reduceToNat, Int.reduceGT, Int.reduceGE, ↓reduceIte, decide_true, decide_false, eq_self, Nat.mul_one, Nat.zero_mul, Nat.one_mul, Int.le_refl, Nat.le_refl, Int.cast_ofNat_Int, hk2, hok, hok2, unI_eq, q, q1, q2]
          · have h3 : ((cu.length : Int) == (T.length : Int)) = false := beq_int_f (by omega)
            have hto : truthOk B T ix co cu = false := by unfold truthOk; simp [hl3]
            rcases hK with ⟨rfl, rfl⟩ | ⟨fK, rfl⟩
            all_goals
              simp (decide := true) (maxSteps := 4000000) only [go_sem, Nat.reduceAdd, Nat.reduceSub, Nat.reduceMul, Nat.reduceDiv, Nat.reduceMod, Nat.reduceLT, Nat.reduceLeDiff, Nat.reduceEqDiff, Nat.reduceBEq, Nat.reduceBNe, Nat.reduceGT, Int.reduceAdd, Int.reduceSub, Int.reduceMul, Int.reduceNeg, Int.reduceLT, Int.reduceLE, Int.reduceEq, Int.reduceNe, Int.reduceBEq, Int.reduceBNe, Int.reduceToNat, Int.reduceGT, Int.reduceGE, ↓reduceIte, decide_true, decide_false, eq_self, Nat.mul_one, Nat.zero_mul, Nat.one_mul, Int.le_refl, Nat.le_refl, Int.cast_ofNat_Int, Try.f17, Ob.t, Ob.cs, hlB, hlT, askedG, want0, hs, ho, h1, h2, h3, z0, z1, hto]
              refine pwpC_loopU (A := Unit) [3, 4, 5] (fun _ => [(11, .t (.int .i64 0)), (10, .t (.bool false))]) (fun _ => []) (fun _ => 0) () (by decide) (fun _ => by rfl) ?_ fun Q1 hQ1 _ I1 hI1 => ?_
              · simp (decide := true) (maxSteps := 4000000) only [go_sem, Nat.reduceAdd, Nat.reduceSub, Nat.reduceMul, Nat.reduceDiv, Nat.reduceMod, Nat.reduceLT, Nat.reduceLeDiff, Nat.reduceEqDiff, Nat.reduceBEq, Nat.reduceBNe, Nat.reduceGT, Int.reduceAdd, Int.reduceSub, Int.reduceMul, Int.reduceNeg, Int.reduceLT, Int.reduceLE, Int.reduceEq, Int.reduceNe, Int.reduceBEq, Int.reduceBNe, Int.reduceToNat, Int.reduceGT, Int.reduceGE, ↓reduceIte, decide_true, decide_false, eq_self, Nat.mul_one, Nat.zero_mul, Nat.one_mul, Int.le_refl, Nat.le_refl, Int.cast_ofNat_Int]
              · simp (decide := true) (maxSteps := 4000000) only [go_sem, Nat.reduceAdd, Nat.reduceSub, Nat.reduceMul, Nat.reduceDiv, Nat.reduceMod, Nat.reduceLT, Nat.reduceLeDiff, Nat.reduceEqDiff, Nat.reduceBEq, Nat.reduceBNe, Nat.reduceGT, Int.reduceAdd, Int.reduceSub, Int.reduceMul, Int.reduceNeg, Int.reduceLT, Int.reduceLE, Int.reduceEq, Int.reduceNe, Int.reduceBEq, Int.reduceBNe, Int.reduceToNat, Int.reduceGT, Int.reduceGE, ↓reduceIte, decide_true, decide_false, eq_self, Nat.mul_one, Nat.zero_mul, Nat.one_mul, Int.le_refl, Nat.le_refl, Int.cast_ofNat_Int]
                refine hQ1 _ _ ?_
                simp (decide := true) (maxSteps := 4000000) only [go_sem, Nat.reduceAdd, Nat.reduceSub, Nat.reduceMul, Nat.reduceDiv, Nat.reduceMod, Nat.reduceLT, Nat.reduceLeDiff, Nat.reduceEqDiff, Nat.reduceBEq, Nat.reduceBNe, Nat.reduceGT, Int.reduceAdd, Int.reduceSub, Int.reduceMul, Int.reduceNeg, Int.reduceLT, Int.reduceLE, Int.reduceEq, Int.reduceNe, Int.reduceBEq, Int.reduceBNe, Int.reduceToNat, Int.reduceGT, Int.reduceGE, ↓reduceIte, decide_true, decide_false, eq_self, Nat.mul_one, Nat.zero_mul, Nat.one_mul, Int.le_refl, Nat.le_refl, Int.cast_ofNat_Int]
                refine pwpC_loopU (A := Unit) [3, 4, 5] (fun _ => [(12, .t (.int .i64 0)), (10, .t (.bool false))]) (fun _ => []) (fun _ => 0) () (by decide) (fun _ => by rfl) ?_ fun Q2 hQ2 _ I2 hI2 => ?_
                · simp (decide := true) (maxSteps := 4000000) only [go_sem, Nat.reduceAdd, Nat.reduceSub, Nat.reduceMul, Nat.reduceDiv, Nat.reduceMod, Nat.reduceLT, Nat.reduceLeDiff, Nat.reduceEqDiff, Nat.reduceBEq, Nat.reduceBNe, Nat.reduceGT, Int.reduceAdd, Int.reduceSub, Int.reduceMul, Int.reduceNeg, Int.reduceLT, Int.reduceLE, Int.reduceEq, Int.reduceNe, Int.reduceBEq, Int.reduceBNe, Int.reduceToNat, Int.reduceGT, Int.reduceGE, ↓reduceIte, decide_true, decide_false, eq_self, Nat.mul_one, Nat.zero_mul, Nat.one_mul, Int.le_refl, Nat.le_refl, Int.cast_ofNat_Int]
                · simp (decide := true) (maxSteps := 4000000) only [go_sem, Nat.reduceAdd, Nat.reduceSub, Nat.reduceMul, Nat.reduceDiv, Nat.reduceMod, Nat.reduceLT, Nat.reduceLeDiff, Nat.reduceEqDiff, Nat.reduceBEq, Nat.reduceBNe, Nat.reduceGT, Int.reduceAdd, Int.reduceSub, Int.reduceMul, Int.reduceNeg, Int.reduceLT, Int.reduceLE, Int.reduceEq, Int.reduceNe, Int.reduceBEq, Int.reduceBNe, Int.reduceToNat, Int.reduceGT, Int.reduceGE, ↓reduceIte, decide_true, decide_false, eq_self, Nat.mul_one, Nat.zero_mul, Nat.one_mul, Int.le_refl, Nat.le_refl, Int.cast_ofNat_Int]
                  refine hQ2 _ _ ?_
                  simp (decide := true) (maxSteps := 4000000) only [go_sem, Nat.reduceAdd, Nat.reduceSub, Nat.reduceMul, Nat.reduceDiv, Nat.reduceMod, Nat.reduceLT, Nat.reduceLeDiff, Nat.reduceEqDiff, Nat.reduceBEq, Nat.reduceBNe, Nat.reduceGT, Int.reduceAdd, Int.reduceSub, Int.reduceMul, Int.reduceNeg, Int.reduceLT, Int.reduceLE, Int.reduceEq, Int.reduceNe, Int.reduceBEq, Int.reduceBNe, Int.reduceToNat, Int.reduceGT, Int.reduceGE, ↓reduceIte, decide_true, decide_false, eq_self, Nat.mul_one, Nat.zero_mul, Nat.one_mul, Int.le_refl, Nat.le_refl, Int.cast_ofNat_Int, hto]
        · have h2 : ((co.length : Int) == (B.length : Int)) = false := beq_int_f (by omega)
          have hto : truthOk B T ix co cu = false := by unfold truthOk; simp [hl2]
          rcases hC with ⟨rfl, rfl⟩ | ⟨fC, rfl⟩ <;> rcases hK with ⟨rfl, rfl⟩ | ⟨fK, rfl⟩
          all_goals
            simp (decide := true) (maxSteps := 4000000) only [go_sem, Nat.reduceAdd, Nat.reduceSub, Nat.reduceMul, Nat.reduceDiv, Nat.reduceMod, Nat.reduceLT, Nat.reduceLeDiff, Nat.reduceEqDiff, Nat.reduceBEq, Nat.reduceBNe, Nat.reduceGT, Int.reduceAdd, Int.reduceSub, Int.reduceMul, Int.reduceNeg, Int.reduceLT, Int.reduceLE, Int.reduceEq, Int.reduceNe, Int.reduceBEq, Int.reduceBNe, Int.reduceToNat, Int.reduceGT, Int.reduceGE, ↓reduceIte, decide_true, decide_false, eq_self, Nat.mul_one, Nat.zero_mul, Nat.one_mul, Int.le_refl, Nat.le_refl, Int.cast_ofNat_Int, Try.f17, Ob.t, Ob.cs, hlB, hlT, askedG, want0, hs, ho, h1, h2, z0, z1, hto]
            refine pwpC_loopU (A := Unit) [3, 4, 5] (fun _ => [(11, .t (.int .i64 0)), (10, .t (.bool false))]) (fun _ => []) (fun _ => 0) () (by decide) (fun _ => by rfl) ?_ fun Q1 hQ1 _ I1 hI1 => ?_
            · simp (decide := true) (maxSteps := 4000000) only [go_sem, Nat.reduceAdd, Nat.reduceSub, Nat.reduceMul, Nat.reduceDiv, Nat.reduceMod, Nat.reduceLT, Nat.reduceLeDiff, Nat.reduceEqDiff, Nat.reduceBEq, Nat.reduceBNe, Nat.reduceGT, Int.reduceAdd, Int.reduceSub, Int.reduceMul, Int.reduceNeg, Int.reduceLT, Int.reduceLE, Int.reduceEq, Int.reduceNe, Int.reduceBEq, Int.reduceBNe, Int.reduceToNat, Int.reduceGT, Int.reduceGE, ↓reduceIte, decide_true, decide_false, eq_self, Nat.mul_one, Nat.zero_mul, Nat.one_mul, Int.le_refl, Nat.le_refl, Int.cast_ofNat_Int]
            · simp (decide := true) (maxSteps := 4000000) only [go_sem, Nat.reduceAdd, Nat.reduceSub, Nat.reduceMul, Nat.reduceDiv, Nat.reduceMod, Nat.reduceLT, Nat.reduceLeDiff, Nat.reduceEqDiff, Nat.reduceBEq, Nat.reduceBNe, Nat.reduceGT, Int.reduceAdd, Int.reduceSub, Int.reduceMul, Int.reduceNeg, Int.reduceLT, Int.reduceLE, Int.reduceEq, Int.reduceNe, Int.reduceBEq, Int.reduceBNe, Int.reduceToNat, Int.reduceGT, Int.reduceGE, ↓reduceIte, decide_true, decide_false, eq_self, Nat.mul_one, Nat.zero_mul, Nat.one_mul, Int.le_refl, Nat.le_refl, Int.cast_ofNat_Int]
              refine hQ1 _ _ ?_
              simp (decide := true) (maxSteps := 4000000) only [go_sem, Nat.reduceAdd, Nat.reduceSub, Nat.reduceMul, Nat.reduceDiv, Nat.reduceMod, Nat.reduceLT, Nat.reduceLeDiff, Nat.reduceEqDiff, Nat.reduceBEq, Nat.reduceBNe, Nat.reduceGT, Int.reduceAdd, Int.reduceSub, Int.reduceMul, Int.reduceNeg, Int.reduceLT, Int.reduceLE, Int.reduceEq, Int.reduceNe, Int.reduceBEq, Int.reduceBNe, Int.reduceToNat, Int.reduceGT, Int.reduceGE, ↓reduceIte, decide_true, decide_false, eq_self, Nat.mul_one, Nat.zero_mul, Nat.one_mul, Int.le_refl, Nat.le_refl, Int.cast_ofNat_Int]
              refine pwpC_loopU (A := Unit) [3, 4, 5] (fun _ => [(12, .t (.int .i64 0)), (10, .t (.bool false))]) (fun _ => []) (fun _ => 0) () (by decide) (fun _ => by rfl) ?_ fun Q2 hQ2 _ I2 hI2 => ?_
              · simp (decide := true) (maxSteps := 4000000) only [go_sem, Nat.reduceAdd, Nat.reduceSub, Nat.reduceMul, Nat.reduceDiv, Nat.reduceMod, Nat.reduceLT, Nat.reduceLeDiff, Nat.reduceEqDiff, Nat.reduceBEq, Nat.reduceBNe, Nat.reduceGT, Int.reduceAdd, Int.reduceSub, Int.reduceMul, Int.reduceNeg, Int.reduceLT, Int.reduceLE, Int.reduceEq, Int.reduceNe, Int.reduceBEq, Int.reduceBNe, Int.reduceToNat, Int.reduceGT, Int.reduceGE, ↓reduceIte, decide_true, decide_false, eq_self, Nat.mul_one, Nat.zero_mul, Nat.one_mul, Int.le_refl, Nat.le_refl, Int.cast_ofNat_Int]
              · simp (decide := true) (maxSteps := 4000000) only [go_sem, Nat.reduceAdd, Nat.reduceSub, Nat.reduceMul, Nat.reduceDiv, Nat.reduceMod, Nat.reduceLT, Nat.reduceLeDiff, Nat.reduceEqDiff, Nat.reduceBEq, Nat.reduceBNe, Nat.reduceGT, Int.reduceAdd, Int.reduceSub, Int.reduceMul, Int.reduceNeg, Int.reduceLT, Int.reduceLE, Int.reduceEq, Int.reduceNe, Int.reduceBEq, Int.reduceBNe, Int.reduceToNat, Int.reduceGT, Int.reduceGE, ↓reduceIte, decide_true, decide_false, eq_self, Nat.mul_one, Nat.zero_mul, Nat.one_mul, Int.le_refl, Nat.le_refl, Int.cast_ofNat_Int]
                refine hQ2 _ _ ?_
                simp (decide := true) (maxSteps := 4000000) only [go_sem, Nat.reduceAdd, Nat.reduceSub, Nat.reduceMul, Nat.reduceDiv, Nat.reduceMod, Nat.reduceLT, Nat.reduceLeDiff, Nat.reduceEqDiff, Nat.reduceBEq, Nat.reduceBNe, Nat.reduceGT, Int.reduceAdd, Int.reduceSub, Int.reduceMul, Int.reduceNeg, Int.reduceLT, Int.reduceLE, Int.reduceEq, Int.reduceNe, Int.reduceBEq, Int.reduceBNe, Int.reduceToNat, Int.reduceGT, Int.reduceGE, ↓reduceIte, decide_true, decide_false, eq_self, Nat.mul_one, Nat.zero_mul, Nat.one_mul, Int.le_refl, Nat.le_refl, Int.cast_ofNat_Int, hto]
      · have h1 : ((ix.length : Int) == (B.length : Int)) = false := beq_int_f (by omega)
        have hto : truthOk B T ix co cu = false := by unfold truthOk; simp [hl1]
        rcases hI with ⟨rfl, rfl⟩ | ⟨fI, rfl⟩ <;> rcases hC with ⟨rfl, rfl⟩ | ⟨fC, rfl⟩ <;> rcases hK with ⟨rfl, rfl⟩ | ⟨fK, rfl⟩
        all_goals
          simp (decide := true) (maxSteps := 4000000) only [go_sem, Nat.reduceAdd, Nat.reduceSub, Nat.reduceMul, Nat.reduceDiv, Nat.reduceMod, Nat.reduceLT, Nat.reduceLeDiff, Nat.reduceEqDiff, Nat.reduceBEq, Nat.reduceBNe, Nat.reduceGT, Int.reduceAdd, Int.reduceSub, Int.reduceMul, Int.reduceNeg, Int.reduceLT, Int.reduceLE, Int.reduceEq, Int.reduceNe, Int.reduceBEq, Int.reduceBNe, Int.reduceToNat, Int.reduceGT, Int.reduceGE, ↓reduceIte, decide_true, decide_false, eq_self, Nat.mul_one, Nat.zero_mul, Nat.one_mul, Int.le_refl, Nat.le_refl, Int.cast_ofNat_Int, Try.f17, Ob.t, Ob.cs, hlB, hlT, askedG, want0, hs, ho, h1, z0, z1, hto]
          refine pwpC_loopU (A := Unit) [3, 4, 5] (fun _ => [(11, .t (.int .i64 0)), (10, .t (.bool false))]) (fun _ => []) (fun _ => 0) () (by decide) (fun _ => by rfl) ?_ fun Q1 hQ1 _ I1 hI1 => ?_
          · simp (decide := true) (maxSteps := 4000000) only [go_sem, Nat.reduceAdd, Nat.reduceSub, Nat.reduceMul, Nat.reduceDiv, Nat.reduceMod, Nat.reduceLT, Nat.reduceLeDiff, Nat.reduceEqDiff, Nat.reduceBEq, Nat.reduceBNe, Nat.reduceGT, Int.reduceAdd, Int.reduceSub, Int.reduceMul, Int.reduceNeg, Int.reduceLT, Int.reduceLE, Int.reduceEq, Int.reduceNe, Int.reduceBEq, Int.reduceBNe, Int.reduceToNat, Int.reduceGT, Int.reduceGE, ↓reduceIte, decide_true, decide_false, eq_self, Nat.mul_one, Nat.zero_mul, Nat.one_mul, Int.le_refl, Nat.le_refl, Int.cast_ofNat_Int]
          · simp (decide := true) (maxSteps := 4000000) only [go_sem, Nat.reduceAdd, Nat.reduceSub, Nat.reduceMul, Nat.reduceDiv, Nat.reduceMod, Nat.reduceLT, Nat.reduceLeDiff, Nat.reduceEqDiff, Nat.reduceBEq, Nat.reduceBNe, Nat.reduceGT, Int.reduceAdd, Int.reduceSub, Int.reduceMul, Int.reduceNeg, Int.reduceLT, Int.reduceLE, Int.reduceEq, Int.reduceNe, Int.reduceBEq, Int.reduceBNe, Int.reduceToNat, Int.reduceGT, Int.reduceGE, ↓reduceIte, decide_true, decide_false, eq_self, Nat.mul_one, Nat.zero_mul, Nat.one_mul, Int.le_refl, Nat.le_refl, Int.cast_ofNat_Int]
            refine hQ1 _ _ ?_
            simp (decide := true) (maxSteps := 4000000) only [go_sem, Nat.reduceAdd, Nat.reduceSub, Nat.reduceMul, Nat.reduceDiv, Nat.reduceMod, Nat.reduceLT, Nat.reduceLeDiff, Nat.reduceEqDiff, Nat.reduceBEq, Nat.reduceBNe, Nat.reduceGT, Int.reduceAdd, Int.reduceSub, Int.reduceMul, Int.reduceNeg, Int.reduceLT, Int.reduceLE, Int.reduceEq, Int.reduceNe, Int.reduceBEq, Int.reduceBNe, Int.reduceToNat, Int.reduceGT, Int.reduceGE, ↓reduceIte, decide_true, decide_false, eq_self, Nat.mul_one, Nat.zero_mul, Nat.one_mul, Int.le_refl, Nat.le_refl, Int.cast_ofNat_Int]
            refine pwpC_loopU (A := Unit) [3, 4, 5] (fun _ => [(12, .t (.int .i64 0)), (10, .t (.bool false))]) (fun _ => []) (fun _ => 0) () (by decide) (fun _ => by rfl) ?_ fun Q2 hQ2 _ I2 hI2 => ?_
            · simp (decide := true) (maxSteps := 4000000) only [go_sem, Nat.reduceAdd, Nat.reduceSub, Nat.reduceMul, Nat.reduceDiv, Nat.reduceMod, Nat.reduceLT, Nat.reduceLeDiff, Nat.reduceEqDiff, Nat.reduceBEq, Nat.reduceBNe, Nat.reduceGT, Int.reduceAdd, Int.reduceSub, Int.reduceMul, Int.reduceNeg, Int.reduceLT, Int.reduceLE, Int.reduceEq, Int.reduceNe, Int.reduceBEq, Int.reduceBNe, Int.reduceToNat, Int.reduceGT, Int.reduceGE, ↓reduceIte, decide_true, decide_false, eq_self, Nat.mul_one, Nat.zero_mul, Nat.one_mul, Int.le_refl, Nat.le_refl, Int.cast_ofNat_Int]
            · simp (decide := true) (maxSteps := 4000000) only [go_sem, Nat.reduceAdd, Nat.reduceSub, Nat.reduceMul, Nat.reduceDiv, Nat.reduceMod, Nat.reduceLT, Nat.reduceLeDiff, Nat.reduceEqDiff, Nat.reduceBEq, Nat.reduceBNe, Nat.reduceGT, Int.reduceAdd, Int.reduceSub, Int.reduceMul, Int.reduceNeg, Int.reduceLT, Int.reduceLE, Int.reduceEq, Int.reduceNe, Int.reduceBEq, Int.reduceBNe, Int.reduceToNat, Int.reduceGT, Int.reduceGE, ↓reduceIte, decide_true, decide_false, eq_self, Nat.mul_one, Nat.zero_mul, Nat.one_mul, Int.le_refl, Nat.le_refl, Int.cast_ofNat_Int]
              refine hQ2 _ _ ?_
              simp (decide := true) (maxSteps := 4000000) only [go_sem, Nat.reduceAdd, Nat.reduceSub, Nat.reduceMul, Nat.reduceDiv, Nat.reduceMod, Nat.reduceLT, Nat.reduceLeDiff, Nat.reduceEqDiff, Nat.reduceBEq, Nat.reduceBNe, Nat.reduceGT, Int.reduceAdd, Int.reduceSub, Int.reduceMul, Int.reduceNeg, Int.reduceLT, Int.reduceLE, Int.reduceEq, Int.reduceNe, Int.reduceBEq, Int.reduceBNe, Int.reduceToNat, Int.reduceGT, Int.reduceGE, ↓reduceIte, decide_true, decide_false, eq_self, Nat.mul_one, Nat.zero_mul, Nat.one_mul, Int.le_refl, Nat.le_refl, Int.cast_ofNat_Int, hto]
end Go.Proofs.Ytcjcnmpecmbdeaa

/- Part Gi. -/
namespace Go.Oc
open Go Go.Pm
theorem rowL_is {α : Type} {un : List TV → Option (List α)} {c : α → List TV} (hu : ∀ l : List α, un (l.flatMap c) = some l) {s : TV} {l : List α} (h : IsRow c s l) : rowL un s = some l := by
  rcases h with ⟨rfl, rfl⟩ | ⟨full, rfl⟩
  · exact hu []
  · simp only [rowL, hu, if_true]
theorem rowB_is {s : TV} {l : List Blank} (h : IsRow Blank.cs s l) : rowL unBlanks s = some l := rowL_is unBlanks_eq h
theorem rowT_is {s : TV} {l : List Span} (h : IsRow Span.cs s l) : rowL unSpans s = some l := rowL_is unSpans_eq h
theorem rowI_is {s : TV} {l : List Int} (h : IsRow ic s l) : rowL unI s = some l := rowL_is (fun l => by rw [ic_ints]; exact unI_eq l) h
theorem rowF_is {s : TV} {l : List Fr} (h : IsRow Fr.cs s l) : rowL unFrs s = some l := rowL_is unFrs_eq h
end Go.Oc
namespace Go.Proofs.Ytcjcnmpecmbdeaa
open Go.RowKit Go.Pm Go.Oc
set_option maxRecDepth 100000
set_option linter.unusedVariables false
set_option maxHeartbeats 4000000

theorem rSpansE_ok : ∀ xs r, glSpansE xs = some r → PCalls Try.prog 21 xs r := by
  intro xs r h
  unfold glSpansE at h
  split at h
  · split at h
    · rename_i B T hB hT
      split at h
      · rename_i hc; cases h
        exact r4SpansE_c (rowL_some (un := unBlanks) rfl (@unBlanks_some) hB) (rowL_some (un := unSpans) rfl (@unSpans_some) hT) hc.1 hc.2 ⟨_, _, _, _, _⟩
      · cases h
    · cases h
  · cases h
theorem rGoodE_ok : ∀ xs r, glGoodE xs = some r → PCalls Try.prog 24 xs r := by
  intro xs r h
  unfold glGoodE at h
  split at h
  · split at h
    · rename_i B T hB hT
      split at h
      · rename_i hc; cases h
        exact r4GoodE_c (rowL_some (un := unBlanks) rfl (@unBlanks_some) hB) (rowL_some (un := unSpans) rfl (@unSpans_some) hT) hc.1 hc.2 ⟨⟨_, _⟩, _⟩ ⟨_, _, _, _, _⟩
      · cases h
    · cases h
  · cases h
theorem rSeen_ok : ∀ xs r, glSeen xs = some r → PCalls Try.prog 17 xs r := by
  intro xs r h
  unfold glSeen at h
  split at h
  · split at h
    · rename_i B T ix co cu hB hT hI hC hK
      split at h
      · rename_i hc; cases h
        exact r4Seen_c (rowL_some (un := unBlanks) rfl (@unBlanks_some) hB) (rowL_some (un := unSpans) rfl (@unSpans_some) hT) hc.1 hc.2 (rowL_some (un := unI) rfl (@unI_some) hI) (rowL_some (un := unI) rfl (@unI_some) hC) (rowL_some (un := unI) rfl (@unI_some) hK) ⟨_, _, _, _, _⟩
      · cases h
    · cases h
  · cases h
noncomputable def goWorks : List TV → Option TV
  | [] => some (.bool true)
  | _ => none
theorem goWorks_ok : ∀ xs r, goWorks xs = some r → PCalls Try.prog 22 xs r := by
  intro xs r h
  unfold goWorks at h
  split at h
  · cases h; exact oWorks_c
  · cases h
attribute [go_sem] goWorks
noncomputable def spI1 : Pm.Spec := ((((spH1.one 22 goWorks).one 19 glCheck).one 21 glSpansE).one 24 glGoodE).one 17 glSeen
@[go_sem] theorem spI1_p (f : FuncId) (xs : List TV) : spI1.p f xs = Pm.Spec.p (((((spH1.one 22 goWorks).one 19 glCheck).one 21 glSpansE).one 24 glGoodE).one 17 glSeen) f xs := rfl
@[go_sem] theorem spI1_h (f : FuncId) (ps : List PV) (hl : List PO) : spI1.h f ps hl = Pm.Spec.h (((((spH1.one 22 goWorks).one 19 glCheck).one 21 glSpansE).one 24 glGoodE).one 17 glSeen) f ps hl := rfl
@[go_sem] theorem spI1_fz (f : FuncId) : spI1.fz f = Pm.Spec.fz (((((spH1.one 22 goWorks).one 19 glCheck).one 21 glSpansE).one 24 glGoodE).one 17 glSeen) f := rfl
@[go_sem] theorem spI1_fr (f : FuncId) : spI1.fr f = Pm.Spec.fr (((((spH1.one 22 goWorks).one 19 glCheck).one 21 glSpansE).one 24 glGoodE).one 17 glSeen) f := rfl
@[go_sem] theorem spI1_mu (t : TypeId) : spI1.mu t = Pm.Spec.mu (((((spH1.one 22 goWorks).one 19 glCheck).one 21 glSpansE).one 24 glGoodE).one 17 glSeen) t := rfl
theorem spI1_ok : SpecOk Try.prog spI1 := Spec.one_ok rSeen_ok (Spec.one_ok rGoodE_ok (Spec.one_ok rSpansE_ok (Spec.one_ok r4Check_ok (Spec.one_ok goWorks_ok spH1_ok))))
theorem GlassSees_c {B : List Blank} {T : List Span} {sB sT sI sC sK : TV} {ix co cu : List Int} (hB : IsRow Blank.cs sB B) (hT : IsRow Span.cs sT T) (hlB : B.length ≤ 5864062014806) (hlT : T.length ≤ 9000000000000) (hI : IsRow ic sI ix) (hC : IsRow ic sC co) (hK : IsRow ic sK cu) (o : Ob) :
    PCalls Try.prog 3 [.agg [sB, sT], o.t, .agg [sI, sC, sK]] (.bool true) := by
  have rB := rowB_is hB
  have rT := rowT_is hT
  have rI := rowI_is hI
  have rC := rowI_is hC
  have rK := rowI_is hK
  unfold rowL at rB rT rI rC rK
  refine pcalls_by Try.mixes spI1_ok (fn := Try.f3) Try.func3 rfl (by kernel_rfl) (by show 3 ≤ _; decide) ?_
  simp (decide := true) (maxSteps := 4000000) only [go_sem, Nat.reduceAdd, Nat.reduceSub, Nat.reduceMul, Nat.reduceDiv, Nat.reduceMod, Nat.reduceLT, Nat.reduceLeDiff, Nat.reduceEqDiff, Nat.reduceBEq, Nat.reduceBNe, Nat.reduceGT, Int.reduceAdd, Int.reduceSub, Int.reduceMul, Int.reduceNeg, Int.reduceLT, Int.reduceLE, Int.reduceEq, Int.reduceNe, Int.reduceBEq, Int.reduceBNe, Int.reduceToNat, Int.reduceGT, Int.reduceGE, ↓reduceIte, decide_true, decide_false, eq_self, Nat.mul_one, Nat.zero_mul, Nat.one_mul, Int.le_refl, Nat.le_refl, Int.cast_ofNat_Int, Try.f3, Ob.t, Ob.cs, rB, rT, rI, rC, rK, hlB, hlT, Span.t, Span.cs, bne_self_eq_false, beq_self_eq_true, Bool.and_self]
end Go.Proofs.Ytcjcnmpecmbdeaa

/- Part Gd. -/
namespace Go.Proofs.Ytcjcnmpecmbdeaa
open Go.RowKit Go.Pm Go.Oc
set_option maxRecDepth 100000
set_option linter.unusedVariables false

theorem slice_cells {k : Nat} {t e : TypeId} {cs : List TV} (hu : Program.underlying Try.prog t = some (.slice e)) (h : cellsOk Try.prog (k + 1) t cs) : ∃ x, cs = [x] ∧ cellsOk Try.prog (k + 1) t [x] := by
  have h' := h
  unfold cellsOk at h'
  rw [hu] at h'
  rcases h' with h' | ⟨rows, full, h', _⟩
  · exact ⟨_, h', by rw [← h']; exact h⟩
  · exact ⟨_, h', by rw [← h']; exact h⟩
theorem int_cells {k : Nat} {cs : List TV} (h : cellsOk Try.prog (k + 1) 3 cs) : ∃ n, cs = [.int .i64 n] ∧ In64 n := cellsOk_i64 (by kernel_rfl) h
theorem span_cells {k : Nat} {cs : List TV} (h : cellsOk Try.prog (k + 2) 37 cs) : ∃ s : Span, cs = s.cs ∧ In64 s.lo ∧ In64 s.hi := by
  have h := cellsOk_tys (ts := [3, 3]) (by kernel_rfl) h
  obtain ⟨_, r, rfl, h1, h⟩ := seqOk_cons h
  obtain ⟨_, r, rfl, h2, h⟩ := seqOk_cons h
  cases seqOk_nil h
  obtain ⟨a, rfl, ha⟩ := int_cells h1
  obtain ⟨b, rfl, hb⟩ := int_cells h2
  exact ⟨⟨a, b⟩, rfl, ha, hb⟩
theorem blank_cells {k : Nat} {cs : List TV} (h : cellsOk Try.prog (k + 3) 87 cs) : ∃ b : Blank, cs = b.cs ∧ In64 b.i.lo ∧ In64 b.i.hi ∧ In64 b.c.lo ∧ In64 b.c.hi ∧ In64 b.pr := by
  have h := cellsOk_tys (ts := [37, 37, 3]) (by kernel_rfl) h
  obtain ⟨_, r, rfl, h1, h⟩ := seqOk_cons h
  obtain ⟨_, r, rfl, h2, h⟩ := seqOk_cons h
  obtain ⟨_, r, rfl, h3, h⟩ := seqOk_cons h
  cases seqOk_nil h
  obtain ⟨a, rfl, a1, a2⟩ := span_cells h1
  obtain ⟨b, rfl, b1, b2⟩ := span_cells h2
  obtain ⟨c, rfl, hc⟩ := int_cells h3
  exact ⟨⟨a, b, c⟩, rfl, a1, a2, b1, b2, hc⟩
theorem fr_cells {k : Nat} {cs : List TV} (h : cellsOk Try.prog (k + 3) 93 cs) : ∃ f : Fr, cs = f.cs ∧ In64 f.p.lo ∧ In64 f.p.hi ∧ In64 f.r.lo ∧ In64 f.r.hi ∧ In64 f.g := by
  have h := cellsOk_tys (ts := [37, 37, 3]) (by kernel_rfl) h
  obtain ⟨_, r, rfl, h1, h⟩ := seqOk_cons h
  obtain ⟨_, r, rfl, h2, h⟩ := seqOk_cons h
  obtain ⟨_, r, rfl, h3, h⟩ := seqOk_cons h
  cases seqOk_nil h
  obtain ⟨a, rfl, a1, a2⟩ := span_cells h1
  obtain ⟨b, rfl, b1, b2⟩ := span_cells h2
  obtain ⟨c, rfl, hc⟩ := int_cells h3
  exact ⟨⟨a, b, c⟩, rfl, a1, a2, b1, b2, hc⟩
theorem ints_cells {x : TV} {k : Nat} (h : cellsOk Try.prog (k + 2) 29 [x]) : ∃ l : List Int, IsRow ic x l ∧ l.length ≤ 17592186044415 ∧ ∀ n ∈ l, In64 n := by
  obtain ⟨l, h1, h2, h3, _⟩ := cellsOk_row (e := 3) (c := ic) (p := fun n => In64 n) (by kernel_rfl) (fun cs hc => int_cells hc) h
  rw [show Program.bytesOf Try.prog 3 = 8 by kernel_rfl] at h3
  unfold reachBytes at h3
  exact ⟨l, h1, by omega, h2⟩
theorem blanks_cells {x : TV} {k : Nat} (h : cellsOk Try.prog (k + 4) 22 [x]) : ∃ l : List Blank, IsRow Blank.cs x l ∧ l.length ≤ 5864062014805 ∧ ∀ b ∈ l, In64 b.i.lo ∧ In64 b.i.hi ∧ In64 b.c.lo ∧ In64 b.c.hi ∧ In64 b.pr := by
  obtain ⟨l, h1, h2, h3, _⟩ := cellsOk_row (e := 87) (c := Blank.cs) (by kernel_rfl) (fun cs hc => blank_cells hc) h
  rw [show Program.bytesOf Try.prog 87 = 40 by kernel_rfl] at h3
  unfold reachBytes at h3
  exact ⟨l, h1, by omega, h2⟩
theorem frs_cells {x : TV} {k : Nat} (h : cellsOk Try.prog (k + 4) 56 [x]) : ∃ l : List Fr, IsRow Fr.cs x l ∧ l.length ≤ 5864062014805 ∧ ∀ f ∈ l, In64 f.p.lo ∧ In64 f.p.hi ∧ In64 f.r.lo ∧ In64 f.r.hi ∧ In64 f.g := by
  obtain ⟨l, h1, h2, h3, _⟩ := cellsOk_row (e := 93) (c := Fr.cs) (by kernel_rfl) (fun cs hc => fr_cells hc) h
  rw [show Program.bytesOf Try.prog 93 = 40 by kernel_rfl] at h3
  unfold reachBytes at h3
  exact ⟨l, h1, by omega, h2⟩
theorem spans_cells {x : TV} {k : Nat} (h : cellsOk Try.prog (k + 3) 23 [x]) : ∃ l : List Span, IsRow Span.cs x l ∧ l.length ≤ 8796093022207 ∧ ∀ b ∈ l, In64 b.lo ∧ In64 b.hi := by
  obtain ⟨l, h1, h2, h3, _⟩ := cellsOk_row (e := 37) (c := Span.cs) (by kernel_rfl) (fun cs hc => span_cells hc) h
  rw [show Program.bytesOf Try.prog 37 = 16 by kernel_rfl] at h3
  unfold reachBytes at h3
  exact ⟨l, h1, by omega, h2⟩
theorem stockArg {x : TV} (h : argOk Try.prog 25 x) : ∃ (B : List Blank) (T : List Span) (sB sT : TV), x = .agg [sB, sT] ∧ IsRow Blank.cs sB B ∧ IsRow Span.cs sT T ∧ B.length ≤ 5864062014805 ∧ T.length ≤ 8796093022207 ∧
    (∀ b ∈ B, In64 b.i.lo ∧ In64 b.i.hi ∧ In64 b.c.lo ∧ In64 b.c.hi ∧ In64 b.pr) ∧ ∀ t ∈ T, In64 t.lo ∧ In64 t.hi := by
  obtain ⟨cs, rfl, h'⟩ := argOk_agg (ts := [22, 23]) (by kernel_rfl) h
  have h := cellsOk_tys (ts := [22, 23]) (by kernel_rfl) h'
  obtain ⟨_, r, rfl, h1, h⟩ := seqOk_cons h
  obtain ⟨_, r, rfl, h2, h⟩ := seqOk_cons h
  cases seqOk_nil h
  obtain ⟨a, rfl, h1⟩ := slice_cells (e := 87) (by kernel_rfl) h1
  obtain ⟨b, rfl, h2⟩ := slice_cells (e := 37) (by kernel_rfl) h2
  obtain ⟨B, hB, lB, iB⟩ := blanks_cells h1
  obtain ⟨T, hT, lT, iT⟩ := spans_cells h2
  exact ⟨B, T, a, b, rfl, hB, hT, lB, lT, iB, iT⟩
theorem obArg {x : TV} (h : argOk Try.prog 28 x) : ∃ o : Ob, x = o.t ∧ In64 o.f ∧ In64 o.s ∧ In64 o.a ∧ In64 o.b ∧ In64 o.c := by
  obtain ⟨cs, rfl, h'⟩ := argOk_agg (ts := [3, 3, 26]) (by kernel_rfl) h
  have h := cellsOk_tys (ts := [3, 3, 26]) (by kernel_rfl) h'
  obtain ⟨_, r, rfl, h1, h⟩ := seqOk_cons h
  obtain ⟨_, r, rfl, h2, h⟩ := seqOk_cons h
  obtain ⟨_, r, rfl, h3, h⟩ := seqOk_cons h
  cases seqOk_nil h
  obtain ⟨a, rfl, ia⟩ := int_cells h1
  obtain ⟨b, rfl, ib⟩ := int_cells h2
  have h := cellsOk_tys (ts := [3, 3, 3]) (by kernel_rfl) h3
  obtain ⟨_, r, rfl, h4, h⟩ := seqOk_cons h
  obtain ⟨_, r, rfl, h5, h⟩ := seqOk_cons h
  obtain ⟨_, r, rfl, h6, h⟩ := seqOk_cons h
  cases seqOk_nil h
  obtain ⟨c, rfl, ic⟩ := int_cells h4
  obtain ⟨d, rfl, id⟩ := int_cells h5
  obtain ⟨e, rfl, ie⟩ := int_cells h6
  exact ⟨⟨a, b, c, d, e⟩, rfl, ia, ib, ic, id, ie⟩
theorem truthArg {x : TV} (h : argOk Try.prog 31 x) : ∃ (ix co cu : List Int) (a b c : TV), x = .agg [a, b, c] ∧ IsRow ic a ix ∧ IsRow ic b co ∧ IsRow ic c cu ∧ ix.length ≤ 17592186044415 ∧ co.length ≤ 17592186044415 ∧ cu.length ≤ 17592186044415 := by
  obtain ⟨cs, rfl, h'⟩ := argOk_agg (ts := [29, 29, 29]) (by kernel_rfl) h
  have h := cellsOk_tys (ts := [29, 29, 29]) (by kernel_rfl) h'
  obtain ⟨_, r, rfl, h1, h⟩ := seqOk_cons h
  obtain ⟨_, r, rfl, h2, h⟩ := seqOk_cons h
  obtain ⟨_, r, rfl, h3, h⟩ := seqOk_cons h
  cases seqOk_nil h
  obtain ⟨a, rfl, h1⟩ := slice_cells (e := 3) (by kernel_rfl) h1
  obtain ⟨b, rfl, h2⟩ := slice_cells (e := 3) (by kernel_rfl) h2
  obtain ⟨c, rfl, h3⟩ := slice_cells (e := 3) (by kernel_rfl) h3
  obtain ⟨ix, r1, l1, _⟩ := ints_cells h1
  obtain ⟨co, r2, l2, _⟩ := ints_cells h2
  obtain ⟨cu, r3, l3, _⟩ := ints_cells h3
  exact ⟨ix, co, cu, a, b, c, rfl, r1, r2, r3, l1, l2, l3⟩
theorem wantArg {x : TV} (h : argOk Try.prog 43 x) : ∃ w : Want, x = w.t ∧ In64 w.p.lo ∧ In64 w.p.hi ∧ In64 w.c := by
  obtain ⟨cs, rfl, h'⟩ := argOk_agg (ts := [37, 3]) (by kernel_rfl) h
  have h := cellsOk_tys (ts := [37, 3]) (by kernel_rfl) h'
  obtain ⟨_, r, rfl, h1, h⟩ := seqOk_cons h
  obtain ⟨_, r, rfl, h2, h⟩ := seqOk_cons h
  cases seqOk_nil h
  obtain ⟨a, rfl, a1, a2⟩ := span_cells h1
  obtain ⟨b, rfl, ib⟩ := int_cells h2
  exact ⟨⟨a, b⟩, rfl, a1, a2, ib⟩
theorem intsArg {x : TV} (h : argOk Try.prog 29 x) : ∃ l : List Int, IsRow ic x l ∧ l.length ≤ 17592186044415 ∧ ∀ n ∈ l, In64 n := ints_cells (argOk_sl (e := 3) (by kernel_rfl) h)
theorem frsArg {x : TV} (h : argOk Try.prog 56 x) : ∃ l : List Fr, IsRow Fr.cs x l ∧ l.length ≤ 5864062014805 ∧ ∀ f ∈ l, In64 f.p.lo ∧ In64 f.p.hi ∧ In64 f.r.lo ∧ In64 f.r.hi ∧ In64 f.g := frs_cells (argOk_sl (e := 93) (by kernel_rfl) h)
theorem twoArg {x : TV} (h : argOk Try.prog 91 x) : ∃ a b, x = .agg [.int .i64 a, .int .i64 b] ∧ In64 a ∧ In64 b := by
  obtain ⟨cs, rfl, h'⟩ := argOk_agg (ts := [3, 3]) (by kernel_rfl) h
  have h := cellsOk_tys (ts := [3, 3]) (by kernel_rfl) h'
  obtain ⟨_, r, rfl, h1, h⟩ := seqOk_cons h
  obtain ⟨_, r, rfl, h2, h⟩ := seqOk_cons h
  cases seqOk_nil h
  obtain ⟨a, rfl, ia⟩ := int_cells h1
  obtain ⟨b, rfl, ib⟩ := int_cells h2
  exact ⟨a, b, rfl, ia, ib⟩
end Go.Proofs.Ytcjcnmpecmbdeaa

/- Part Gj. -/
namespace Go.Oc
open Go Go.Pm
/-- Does a curvature agree with a reading, by a curvature of the plate? -/
def agP (f : Fr) (c p : Int) : Bool := inB (max (c - p) (-(c - p))) f.r.lo f.r.hi && (f.g != 1 || decide (c ≥ p)) && (f.g != -1 || decide (c ≤ p))
theorem agB_of {f : Fr} {c p : Int} (hf : frOk f = true) (h1 : f.p.lo ≤ p) (h2 : p ≤ f.p.hi) (h : agP f c p = true) : agB f c = true := by
  have hf := frOk_iff.1 hf
  simp only [agP, inB, Bool.and_eq_true, Bool.or_eq_true, decide_eq_true_eq, bne_iff_ne, ne_eq] at h
  simp only [agB, inB, Bool.and_eq_true, Bool.or_eq_true, decide_eq_true_eq]
  omega
theorem agB_some {f : Fr} {c : Int} (hf : frOk f = true) (h : agB f c = true) : ∃ p, f.p.lo ≤ p ∧ p ≤ f.p.hi ∧ agP f c p = true := by
  have hf := frOk_iff.1 hf
  simp only [agB, inB, Bool.and_eq_true, Bool.or_eq_true, decide_eq_true_eq] at h
  rcases h with ⟨h1, h2⟩ | ⟨h1, h2⟩
  · refine ⟨max f.p.lo (c - f.r.hi), by omega, by omega, ?_⟩
    simp only [agP, inB, Bool.and_eq_true, Bool.or_eq_true, decide_eq_true_eq, bne_iff_ne, ne_eq]
    omega
  · refine ⟨min f.p.hi (c + f.r.hi), by omega, by omega, ?_⟩
    simp only [agP, inB, Bool.and_eq_true, Bool.or_eq_true, decide_eq_true_eq, bne_iff_ne, ne_eq]
    omega
/-- The last span so far, and whether the curvature before agrees. -/
theorem surf_hi (l : List Fr) : ∀ k i y, surfTo l k = i ++ [y] → y.hi ≤ (k : Int) - 2001
  | 0, i, y, h => by simp [surfTo] at h
  | k + 1, i, y, h => by
    rw [surfTo_succ] at h
    unfold surfStep at h
    split at h
    · split at h
      · split at h
        · have := List.append_inj_right' h rfl
          simp only [List.cons.injEq, and_true] at this
          subst this; simp only; omega
        · have := List.append_inj_right' h rfl
          simp only [List.cons.injEq, and_true] at this
          subst this; simp only; omega
      · have := List.append_inj_right' (s₁ := []) h rfl
        simp only [List.cons.injEq, and_true] at this
        subst this; simp only; omega
    · have := surf_hi l k i y h; omega
theorem surf_t {l : List Fr} {k : Nat} (h : frAll l ((k : Int) - 2000) = true) : ∃ i y, surfTo l (k + 1) = i ++ [y] ∧ y.hi = (k : Int) - 2000 := by
  rw [surfTo_succ]
  unfold surfStep
  rw [h]
  simp only [if_true]
  split
  · split
    · exact ⟨_, _, rfl, rfl⟩
    · exact ⟨_, _, rfl, rfl⟩
  · exact ⟨[], _, rfl, rfl⟩
theorem surf_f {l : List Fr} {k : Nat} (h : frAll l ((k : Int) - 2000) = false) : surfTo l (k + 1) = surfTo l k := by
  rw [surfTo_succ]; unfold surfStep; rw [h]; rfl
/-- Did the curvature before agree? -/
def befB (l : List Fr) (k : Nat) : Bool := decide (0 < k) && frAll l ((k : Int) - 2001)
theorem befB_succ (l : List Fr) (k : Nat) : befB l (k + 1) = frAll l ((k : Int) - 2000) := by
  unfold befB
  rw [show ((k + 1 : Nat) : Int) - 2001 = (k : Int) - 2000 by omega]
  simp
theorem bef_t {l : List Fr} {k : Nat} (h : befB l k = true) : ∃ i y, surfTo l k = i ++ [y] ∧ y.hi = (k : Int) - 2000 - 1 := by
  cases k with
  | zero => simp [befB] at h
  | succ k =>
    rw [befB_succ] at h
    obtain ⟨i, y, h1, h2⟩ := surf_t h
    exact ⟨i, y, h1, by omega⟩
theorem bef_f {l : List Fr} {k : Nat} (h : befB l k = false) {i : List Span} {y : Span} (hn : surfTo l k = i ++ [y]) : ¬ y.hi = (k : Int) - 2000 - 1 := by
  cases k with
  | zero => simp [surfTo] at hn
  | succ k =>
    rw [befB_succ] at h
    rw [surf_f h] at hn
    have := surf_hi l k i y hn
    omega
end Go.Oc
namespace Go.Proofs.Ytcjcnmpecmbdeaa
open Go.RowKit Go.Pm Go.Oc
set_option maxRecDepth 100000
set_option linter.unusedVariables false
set_option maxHeartbeats 4000000

theorem r4Agrees_c (f : Fr) (c : Int) (hf : frOk f = true) (hc : -2000 ≤ c ∧ c ≤ 2000) : PCalls Try.prog 76 [.agg f.cs, .int .i64 c] (.bool (agB f c)) := by
  have hf' := frOk_iff.1 hf
  refine pcalls_by Try.mixes spB3_ok (fn := Try.f76) Try.func76 rfl (by kernel_rfl) (by show 2 ≤ _; decide) ?_
  simp (decide := true) (maxSteps := 4000000) only [go_sem, Nat.reduceAdd, Nat.reduceSub, Nat.reduceMul, Nat.reduceDiv, Nat.reduceMod, Nat.reduceLT, Nat.reduceLeDiff, Nat.reduceEqDiff, Nat.reduceBEq, Nat.reduceBNe, Nat.reduceGT, Int.reduceAdd, Int.reduceSub, Int.reduceMul, Int.reduceNeg, Int.reduceLT, Int.reduceLE, Int.reduceEq, Int.reduceNe, Int.reduceBEq, Int.reduceBNe, Int.reduceToNat, Int.reduceGT, Int.reduceGE, ↓reduceIte, decide_true, decide_false, eq_self, Nat.mul_one, Nat.zero_mul, Nat.one_mul, Int.le_refl, Nat.le_refl, Int.cast_ofNat_Int, Try.f76, Fr.cs]
  refine pwpC_loopU (A := { k : Nat // k ≤ (f.p.hi - f.p.lo + 1).toNat ∧ ∀ i : Nat, i < k → agP f c (f.p.lo + i) = false }) [1, 2] (fun k => [(5, .t (.int .i64 (f.p.lo + (k.1 : Nat))))]) (fun _ => []) (fun k => (f.p.hi - f.p.lo + 1).toNat - k.1) ⟨0, by omega, fun i h => by omega⟩ (by decide) (fun _ => by rfl) ?_ fun Q1 hQ1 ⟨k, hk, hka⟩ I1 hI1 => ?_
  · simp (decide := true) (maxSteps := 4000000) only [go_sem, Nat.reduceAdd, Nat.reduceSub, Nat.reduceMul, Nat.reduceDiv, Nat.reduceMod, Nat.reduceLT, Nat.reduceLeDiff, Nat.reduceEqDiff, Nat.reduceBEq, Nat.reduceBNe, Nat.reduceGT, Int.reduceAdd, Int.reduceSub, Int.reduceMul, Int.reduceNeg, Int.reduceLT, Int.reduceLE, Int.reduceEq, Int.reduceNe, Int.reduceBEq, Int.reduceBNe, Int.reduceToNat, Int.reduceGT, Int.reduceGE, ↓reduceIte, decide_true, decide_false, eq_self, Nat.mul_one, Nat.zero_mul, Nat.one_mul, Int.le_refl, Nat.le_refl, Int.cast_ofNat_Int, Int.add_zero]
    first | done | rfl
  · obtain ⟨p, hp⟩ : ∃ p, f.p.lo + (k : Nat) = p := ⟨_, rfl⟩
    rw [hp]
    by_cases hlt : p ≤ f.p.hi
    · have w1 : IntKind.i64.wrap (c - p) = c - p := wrap_in (by omega) (by omega)
      have w2 : IntKind.i64.wrap (0 - (c - p)) = -(c - p) := by rw [wrap_in (by omega) (by omega)]; omega
      have w3 : IntKind.i64.wrap (p + 1) = f.p.lo + ((k + 1 : Nat) : Int) := by rw [wrap_in (by omega) (by omega)]; omega
      have hag : agP f c p = (inB (max (c - p) (-(c - p))) f.r.lo f.r.hi && (f.g != 1 || decide (c ≥ p)) && (f.g != -1 || decide (c ≤ p))) := rfl
      cases h1 : inB (max (c - p) (-(c - p))) f.r.lo f.r.hi <;> cases h2 : (f.g != 1) <;> cases h3 : (f.g != -1) <;> by_cases h4 : c ≥ p <;> by_cases h5 : c ≤ p <;> rw [h1, h2, h3] at hag <;> simp only [h4, h5, decide_true, decide_false, Bool.and_true, Bool.and_false, Bool.or_true, Bool.or_false, Bool.true_and, Bool.false_and, Bool.and_self, Bool.or_self] at hag
      all_goals
        first
          | (have hyes := agB_of hf (by omega) hlt hag
             simp (decide := true) (maxSteps := 4000000) only [go_sem, Nat.reduceAdd, Nat.reduceSub, Nat.reduceMul, Nat.reduceDiv, Nat.reduceMod, Nat.reduceLT, Nat.reduceLeDiff, Nat.reduceEqDiff, Nat.reduceBEq, Nat.reduceBNe, Nat.reduceGT, Int.reduceAdd, Int.reduceSub, Int.reduceMul, Int.reduceNeg, Int.reduceLT, Int.reduceLE, Int.reduceEq, Int.reduceNe, Int.reduceBEq, Int.reduceBNe, Int.reduceToNat, Int.reduceGT, Int.reduceGE, ↓reduceIte, decide_true, decide_false, eq_self, Nat.mul_one, Nat.zero_mul, Nat.one_mul, Int.le_refl, Nat.le_refl, Int.cast_ofNat_Int, hlt, w1, w2, h1, h2, h3, h4, h5]
             refine hQ1 _ _ ?_
             simp (decide := true) (maxSteps := 4000000) only [go_sem, Nat.reduceAdd, Nat.reduceSub, Nat.reduceMul, Nat.reduceDiv, Nat.reduceMod, Nat.reduceLT, Nat.reduceLeDiff, Nat.reduceEqDiff, Nat.reduceBEq, Nat.reduceBNe, Nat.reduceGT, Int.reduceAdd, Int.reduceSub, Int.reduceMul, Int.reduceNeg, Int.reduceLT, Int.reduceLE, Int.reduceEq, Int.reduceNe, Int.reduceBEq, Int.reduceBNe, Int.reduceToNat, Int.reduceGT, Int.reduceGE, ↓reduceIte, decide_true, decide_false, eq_self, Nat.mul_one, Nat.zero_mul, Nat.one_mul, Int.le_refl, Nat.le_refl, Int.cast_ofNat_Int, hyes]
             done)
          | (simp (decide := true) (maxSteps := 4000000) only [go_sem, Nat.reduceAdd, Nat.reduceSub, Nat.reduceMul, Nat.reduceDiv, Nat.reduceMod, Nat.reduceLT, Nat.reduceLeDiff, Nat.reduceEqDiff, Nat.reduceBEq, Nat.reduceBNe, Nat.reduceGT, Int.reduceAdd, Int.reduceSub, Int.reduceMul, Int.reduceNeg, Int.reduceLT, Int.reduceLE, Int.reduceEq, Int.reduceNe, Int.reduceBEq, Int.reduceBNe, Int.reduceToNat, Int.reduceGT, Int.reduceGE, ↓reduceIte, decide_true, decide_false, eq_self, Nat.mul_one, Nat.zero_mul, Nat.one_mul, Int.le_refl, Nat.le_refl, Int.cast_ofNat_Int, hlt, w1, w2, h1, h2, h3, h4, h5]
             refine hI1 _ ⟨k + 1, by omega, fun i hi => ?_⟩ (by simp only; omega) ?_
             · rcases Nat.lt_or_ge i k with h | h
               · exact hka i h
               · rw [show i = k by omega, hp]; exact hag
             · simp (decide := true) (maxSteps := 4000000) only [go_sem, Nat.reduceAdd, Nat.reduceSub, Nat.reduceMul, Nat.reduceDiv, Nat.reduceMod, Nat.reduceLT, Nat.reduceLeDiff, Nat.reduceEqDiff, Nat.reduceBEq, Nat.reduceBNe, Nat.reduceGT, Int.reduceAdd, Int.reduceSub, Int.reduceMul, Int.reduceNeg, Int.reduceLT, Int.reduceLE, Int.reduceEq, Int.reduceNe, Int.reduceBEq, Int.reduceBNe, Int.reduceToNat, Int.reduceGT, Int.reduceGE, ↓reduceIte, decide_true, decide_false, eq_self, Nat.mul_one, Nat.zero_mul, Nat.one_mul, Int.le_refl, Nat.le_refl, Int.cast_ofNat_Int, w3])
    · have hno : agB f c = false := by
        rw [← Bool.not_eq_true]
        intro h
        obtain ⟨q, q1, q2, q3⟩ := agB_some hf h
        have := hka (q - f.p.lo).toNat (by omega)
        rw [show f.p.lo + ((q - f.p.lo).toNat : Int) = q by omega, q3] at this
        cases this
      simp (decide := true) (maxSteps := 4000000) only [go_sem, Nat.reduceAdd, Nat.reduceSub, Nat.reduceMul, Nat.reduceDiv, Nat.reduceMod, Nat.reduceLT, Nat.reduceLeDiff, Nat.reduceEqDiff, Nat.reduceBEq, Nat.reduceBNe, Nat.reduceGT, Int.reduceAdd, Int.reduceSub, Int.reduceMul, Int.reduceNeg, Int.reduceLT, Int.reduceLE, Int.reduceEq, Int.reduceNe, Int.reduceBEq, Int.reduceBNe, Int.reduceToNat, Int.reduceGT, Int.reduceGE, ↓reduceIte, decide_true, decide_false, eq_self, Nat.mul_one, Nat.zero_mul, Nat.one_mul, Int.le_refl, Nat.le_refl, Int.cast_ofNat_Int, hlt]
      refine hQ1 _ _ ?_
      simp (decide := true) (maxSteps := 4000000) only [go_sem, Nat.reduceAdd, Nat.reduceSub, Nat.reduceMul, Nat.reduceDiv, Nat.reduceMod, Nat.reduceLT, Nat.reduceLeDiff, Nat.reduceEqDiff, Nat.reduceBEq, Nat.reduceBNe, Nat.reduceGT, Int.reduceAdd, Int.reduceSub, Int.reduceMul, Int.reduceNeg, Int.reduceLT, Int.reduceLE, Int.reduceEq, Int.reduceNe, Int.reduceBEq, Int.reduceBNe, Int.reduceToNat, Int.reduceGT, Int.reduceGE, ↓reduceIte, decide_true, decide_false, eq_self, Nat.mul_one, Nat.zero_mul, Nat.one_mul, Int.le_refl, Nat.le_refl, Int.cast_ofNat_Int, hno]
noncomputable def rAgrees : List TV → Option TV
  | [.agg [.int .i64 a, .int .i64 b, .int .i64 c, .int .i64 d, .int .i64 e], .int .i64 n] => if frOk ⟨⟨a, b⟩, ⟨c, d⟩, e⟩ = true ∧ -2000 ≤ n ∧ n ≤ 2000 then some (.bool (agB ⟨⟨a, b⟩, ⟨c, d⟩, e⟩ n)) else none
  | _ => none
theorem rAgrees_ok : ∀ xs r, rAgrees xs = some r → PCalls Try.prog 76 xs r := by
  intro xs r h
  unfold rAgrees at h
  split at h
  · split at h
    · rename_i hc; cases h; exact r4Agrees_c ⟨⟨_, _⟩, ⟨_, _⟩, _⟩ _ hc.1 hc.2
    · cases h
  · cases h
attribute [go_sem] rAgrees
noncomputable def spJ1 : Pm.Spec := { spB3.one 76 rAgrees with mu := fun t => t == 23 }
theorem spJ1_ok : SpecOk Try.prog spJ1 := ⟨(Spec.one_ok rAgrees_ok spB3_ok).1, (Spec.one_ok rAgrees_ok spB3_ok).2⟩
@[go_sem] theorem spJ1_p (f : FuncId) (xs : List TV) : spJ1.p f xs = (spB3.one 76 rAgrees).p f xs := rfl
@[go_sem] theorem spJ1_h (f : FuncId) (ps : List PV) (hl : List PO) : spJ1.h f ps hl = (spB3.one 76 rAgrees).h f ps hl := rfl
@[go_sem] theorem spJ1_fz (f : FuncId) : spJ1.fz f = (spB3.one 76 rAgrees).fz f := rfl
@[go_sem] theorem spJ1_fr (f : FuncId) : spJ1.fr f = (spB3.one 76 rAgrees).fr f := rfl
@[go_sem] theorem spJ1_mu (t : TypeId) : spJ1.mu t = (t == 23) := rfl
theorem r4Surface_c {l : List Fr} {s : TV} (hs : IsRow Fr.cs s l) (hl : l.length ≤ 5864062014806) : PCalls Try.prog 31 [s] (.tup [if (surfP l).1.length = 0 then .nilSl else .sl ((surfP l).1.flatMap Span.cs) (surfP l).1.length false, .int .i64 (surfP l).2]) := by
  refine pcalls_by Try.mixes spJ1_ok (fn := Try.f31) Try.func31 rfl (by kernel_rfl) (by show 1 ≤ _; decide) ?_
  unfold surfP
  cases hlen : inB l.length 1 12 with
  | false =>
    have hno : frsOk l = false := by unfold frsOk; rw [hlen]; rfl
    rcases hs with ⟨rfl, rfl⟩ | ⟨full, rfl⟩
    all_goals
      simp (decide := true) (maxSteps := 4000000) only [go_sem, Nat.reduceAdd, Nat.reduceSub, Nat.reduceMul, Nat.reduceDiv, Nat.reduceMod, Nat.reduceLT, Nat.reduceLeDiff, Nat.reduceEqDiff, Nat.reduceBEq, Nat.reduceBNe, Nat.reduceGT, Int.reduceAdd, Int.reduceSub, Int.reduceMul, Int.reduceNeg, Int.reduceLT, Int.reduceLE, Int.reduceEq, Int.reduceNe, Int.reduceBEq, Int.reduceBNe, Int.reduceToNat, Int.reduceGT, Int.reduceGE, ↓reduceIte, decide_true, decide_false, eq_self, Nat.mul_one, Nat.zero_mul, Nat.one_mul, Int.le_refl, Nat.le_refl, Int.cast_ofNat_Int, Try.f31, hlen, List.length_nil, show inB 0 1 12 = false from rfl]
      refine pwpC_loopU (A := Unit) [0] (fun _ => [(5, .t (.int .i64 0)), (4, .t (.bool false))]) (fun _ => []) (fun _ => 0) () (by decide) (fun _ => by rfl) ?_ fun Q1 hQ1 _ I1 hI1 => ?_
      · simp (decide := true) (maxSteps := 4000000) only [go_sem, Nat.reduceAdd, Nat.reduceSub, Nat.reduceMul, Nat.reduceDiv, Nat.reduceMod, Nat.reduceLT, Nat.reduceLeDiff, Nat.reduceEqDiff, Nat.reduceBEq, Nat.reduceBNe, Nat.reduceGT, Int.reduceAdd, Int.reduceSub, Int.reduceMul, Int.reduceNeg, Int.reduceLT, Int.reduceLE, Int.reduceEq, Int.reduceNe, Int.reduceBEq, Int.reduceBNe, Int.reduceToNat, Int.reduceGT, Int.reduceGE, ↓reduceIte, decide_true, decide_false, eq_self, Nat.mul_one, Nat.zero_mul, Nat.one_mul, Int.le_refl, Nat.le_refl, Int.cast_ofNat_Int]
      · simp (decide := true) (maxSteps := 4000000) only [go_sem, Nat.reduceAdd, Nat.reduceSub, Nat.reduceMul, Nat.reduceDiv, Nat.reduceMod, Nat.reduceLT, Nat.reduceLeDiff, Nat.reduceEqDiff, Nat.reduceBEq, Nat.reduceBNe, Nat.reduceGT, Int.reduceAdd, Int.reduceSub, Int.reduceMul, Int.reduceNeg, Int.reduceLT, Int.reduceLE, Int.reduceEq, Int.reduceNe, Int.reduceBEq, Int.reduceBNe, Int.reduceToNat, Int.reduceGT, Int.reduceGE, ↓reduceIte, decide_true, decide_false, eq_self, Nat.mul_one, Nat.zero_mul, Nat.one_mul, Int.le_refl, Nat.le_refl, Int.cast_ofNat_Int]
        refine hQ1 _ _ ?_
        simp (decide := true) (maxSteps := 4000000) only [go_sem, Nat.reduceAdd, Nat.reduceSub, Nat.reduceMul, Nat.reduceDiv, Nat.reduceMod, Nat.reduceLT, Nat.reduceLeDiff, Nat.reduceEqDiff, Nat.reduceBEq, Nat.reduceBNe, Nat.reduceGT, Int.reduceAdd, Int.reduceSub, Int.reduceMul, Int.reduceNeg, Int.reduceLT, Int.reduceLE, Int.reduceEq, Int.reduceNe, Int.reduceBEq, Int.reduceBNe, Int.reduceToNat, Int.reduceGT, Int.reduceGE, ↓reduceIte, decide_true, decide_false, eq_self, Nat.mul_one, Nat.zero_mul, Nat.one_mul, Int.le_refl, Nat.le_refl, Int.cast_ofNat_Int, hno, List.length_nil]
  | true =>
    have hlen' := inB_iff.1 hlen
    obtain ⟨full, rfl⟩ := hs.ne (by omega)
    simp (decide := true) (maxSteps := 4000000) only [go_sem, Nat.reduceAdd, Nat.reduceSub, Nat.reduceMul, Nat.reduceDiv, Nat.reduceMod, Nat.reduceLT, Nat.reduceLeDiff, Nat.reduceEqDiff, Nat.reduceBEq, Nat.reduceBNe, Nat.reduceGT, Int.reduceAdd, Int.reduceSub, Int.reduceMul, Int.reduceNeg, Int.reduceLT, Int.reduceLE, Int.reduceEq, Int.reduceNe, Int.reduceBEq, Int.reduceBNe, Int.reduceToNat, Int.reduceGT, Int.reduceGE, ↓reduceIte, decide_true, decide_false, eq_self, Nat.mul_one, Nat.zero_mul, Nat.one_mul, Int.le_refl, Nat.le_refl, Int.cast_ofNat_Int, Try.f31, hlen]
    refine pwpC_loopU (A := { k : Nat // k ≤ l.length }) [0] (fun k => [(5, .t (.int .i64 k.1)), (4, .t (.bool ((l.take k.1).all frOk)))]) (fun _ => []) (fun k => l.length - k.1) ⟨0, by omega⟩ (by decide) (fun _ => by rfl) ?_ fun Q1 hQ1 ⟨k, hk⟩ I1 hI1 => ?_
    · simp (decide := true) (maxSteps := 4000000) only [go_sem, Nat.reduceAdd, Nat.reduceSub, Nat.reduceMul, Nat.reduceDiv, Nat.reduceMod, Nat.reduceLT, Nat.reduceLeDiff, Nat.reduceEqDiff, Nat.reduceBEq, Nat.reduceBNe, Nat.reduceGT, Int.reduceAdd, Int.reduceSub, Int.reduceMul, Int.reduceNeg, Int.reduceLT, Int.reduceLE, Int.reduceEq, Int.reduceNe, Int.reduceBEq, Int.reduceBNe, Int.reduceToNat, Int.reduceGT, Int.reduceGE, ↓reduceIte, decide_true, decide_false, eq_self, Nat.mul_one, Nat.zero_mul, Nat.one_mul, Int.le_refl, Nat.le_refl, Int.cast_ofNat_Int, List.take_zero, List.all_nil]
    · rcases (Bool.eq_false_or_eq_true ((l.take k).all frOk)).symm with hka | hka
      · have hno : frsOk l = false := by unfold frsOk; rw [all_of_take hka, Bool.and_false]
        simp (decide := true) (maxSteps := 4000000) only [go_sem, Nat.reduceAdd, Nat.reduceSub, Nat.reduceMul, Nat.reduceDiv, Nat.reduceMod, Nat.reduceLT, Nat.reduceLeDiff, Nat.reduceEqDiff, Nat.reduceBEq, Nat.reduceBNe, Nat.reduceGT, Int.reduceAdd, Int.reduceSub, Int.reduceMul, Int.reduceNeg, Int.reduceLT, Int.reduceLE, Int.reduceEq, Int.reduceNe, Int.reduceBEq, Int.reduceBNe, Int.reduceToNat, Int.reduceGT, Int.reduceGE, ↓reduceIte, decide_true, decide_false, eq_self, Nat.mul_one, Nat.zero_mul, Nat.one_mul, Int.le_refl, Nat.le_refl, Int.cast_ofNat_Int, hka]
        refine hQ1 _ _ ?_
        simp (decide := true) (maxSteps := 4000000) only [go_sem, Nat.reduceAdd, Nat.reduceSub, Nat.reduceMul, Nat.reduceDiv, Nat.reduceMod, Nat.reduceLT, Nat.reduceLeDiff, Nat.reduceEqDiff, Nat.reduceBEq, Nat.reduceBNe, Nat.reduceGT, Int.reduceAdd, Int.reduceSub, Int.reduceMul, Int.reduceNeg, Int.reduceLT, Int.reduceLE, Int.reduceEq, Int.reduceNe, Int.reduceBEq, Int.reduceBNe, Int.reduceToNat, Int.reduceGT, Int.reduceGE, ↓reduceIte, decide_true, decide_false, eq_self, Nat.mul_one, Nat.zero_mul, Nat.one_mul, Int.le_refl, Nat.le_refl, Int.cast_ofNat_Int, hno, List.length_nil]
      · by_cases hlt : (k : Int) < l.length
        · obtain ⟨x, hx⟩ := get_lt hlt
          have hd := flat_at Fr.cs (n := 5) (fun _ => rfl) hx
          have hc1 : IntKind.i64.wrap (k + 1) = ((k + 1 : Nat) : Int) := by rw [wrap_in (by omega) (by omega)]; omega
          have ht := take_all frOk hx
          rw [hka, Bool.true_and] at ht
          rw [show frOk x = (spannedB x.p (-1000) 1000 && spannedB x.r 0 1000 && inB x.g (-1) 1) from rfl] at ht
          cases h1 : spannedB x.p (-1000) 1000 <;> cases h2 : spannedB x.r 0 1000 <;> cases h3 : inB x.g (-1) 1 <;> rw [h1, h2, h3] at ht
          all_goals simp (decide := true) (maxSteps := 4000000) only [go_sem, Nat.reduceAdd, Nat.reduceSub, Nat.reduceMul, Nat.reduceDiv, Nat.reduceMod, Nat.reduceLT, Nat.reduceLeDiff, Nat.reduceEqDiff, Nat.reduceBEq, Nat.reduceBNe, Nat.reduceGT, Int.reduceAdd, Int.reduceSub, Int.reduceMul, Int.reduceNeg, Int.reduceLT, Int.reduceLE, Int.reduceEq, Int.reduceNe, Int.reduceBEq, Int.reduceBNe, Int.reduceToNat, Int.reduceGT, Int.reduceGE, ↓reduceIte, decide_true, decide_false, eq_self, Nat.mul_one, Nat.zero_mul, Nat.one_mul, Int.le_refl, Nat.le_refl, Int.cast_ofNat_Int, hlt, hd, Fr.cs, hka, h1, h2, h3]
          all_goals refine hI1 _ ⟨k + 1, by omega⟩ (by simp only; omega) ?_
          all_goals simp (decide := true) (maxSteps := 4000000) only [go_sem, Nat.reduceAdd, Nat.reduceSub, Nat.reduceMul, Nat.reduceDiv, Nat.reduceMod, Nat.reduceLT, Nat.reduceLeDiff, Nat.reduceEqDiff, Nat.reduceBEq, Nat.reduceBNe, Nat.reduceGT, Int.reduceAdd, Int.reduceSub, Int.reduceMul, Int.reduceNeg, Int.reduceLT, Int.reduceLE, Int.reduceEq, Int.reduceNe, Int.reduceBEq, Int.reduceBNe, Int.reduceToNat, Int.reduceGT, Int.reduceGE, ↓reduceIte, decide_true, decide_false, eq_self, Nat.mul_one, Nat.zero_mul, Nat.one_mul, Int.le_refl, Nat.le_refl, Int.cast_ofNat_Int, hc1, ht, Bool.and_true, Bool.and_false, Bool.and_self, Bool.false_and]
        · have hke : k = l.length := by omega
          subst hke
          rw [List.take_length] at hka
          have hok : frsOk l = true := by unfold frsOk; rw [hlen, hka]; rfl
          have hmem := (frsOk_at hok).2
          have htl : (List.take l.length l).all frOk = true := by rw [List.take_length]; exact hka
          simp (decide := true) (maxSteps := 4000000) only [go_sem, Nat.reduceAdd, Nat.reduceSub, Nat.reduceMul, Nat.reduceDiv, Nat.reduceMod, Nat.reduceLT, Nat.reduceLeDiff, Nat.reduceEqDiff, Nat.reduceBEq, Nat.reduceBNe, Nat.reduceGT, Int.reduceAdd, Int.reduceSub, Int.reduceMul, Int.reduceNeg, Int.reduceLT, Int.reduceLE, Int.reduceEq, Int.reduceNe, Int.reduceBEq, Int.reduceBNe, Int.reduceToNat, Int.reduceGT, Int.reduceGE, ↓reduceIte, decide_true, decide_false, eq_self, Nat.mul_one, Nat.zero_mul, Nat.one_mul, Int.le_refl, Nat.le_refl, Int.cast_ofNat_Int, hlt, htl]
          refine hQ1 _ _ ?_
          simp (decide := true) (maxSteps := 4000000) only [go_sem, Nat.reduceAdd, Nat.reduceSub, Nat.reduceMul, Nat.reduceDiv, Nat.reduceMod, Nat.reduceLT, Nat.reduceLeDiff, Nat.reduceEqDiff, Nat.reduceBEq, Nat.reduceBNe, Nat.reduceGT, Int.reduceAdd, Int.reduceSub, Int.reduceMul, Int.reduceNeg, Int.reduceLT, Int.reduceLE, Int.reduceEq, Int.reduceNe, Int.reduceBEq, Int.reduceBNe, Int.reduceToNat, Int.reduceGT, Int.reduceGE, ↓reduceIte, decide_true, decide_false, eq_self, Nat.mul_one, Nat.zero_mul, Nat.one_mul, Int.le_refl, Nat.le_refl, Int.cast_ofNat_Int, hok]
          refine pwpC_loopU (A := { k : Nat // k ≤ 4001 }) [0] (fun k => [(8, .t (.int .i64 ((k.1 : Int) - 2000))), (7, .t (.bool (befB l k.1))), (6, outV (surfTo l k.1))]) (fun k => outH (surfTo l k.1)) (fun k => 4001 - k.1) ⟨0, by omega⟩ (by decide) (fun _ => by rfl) ?_ fun Q2 hQ2 ⟨c, hc⟩ I2 hI2 => ?_
          · have v0 : outV (surfTo l 0) = .t .nilSl := rfl
            have o0 : outH (surfTo l 0) = [] := rfl
            have b0 : befB l 0 = false := rfl
            simp (decide := true) (maxSteps := 4000000) only [go_sem, Nat.reduceAdd, Nat.reduceSub, Nat.reduceMul, Nat.reduceDiv, Nat.reduceMod, Nat.reduceLT, Nat.reduceLeDiff, Nat.reduceEqDiff, Nat.reduceBEq, Nat.reduceBNe, Nat.reduceGT, Int.reduceAdd, Int.reduceSub, Int.reduceMul, Int.reduceNeg, Int.reduceLT, Int.reduceLE, Int.reduceEq, Int.reduceNe, Int.reduceBEq, Int.reduceBNe, Int.reduceToNat, Int.reduceGT, Int.reduceGE, ↓reduceIte, decide_true, decide_false, eq_self, Nat.mul_one, Nat.zero_mul, Nat.one_mul, Int.le_refl, Nat.le_refl, Int.cast_ofNat_Int, v0, o0, b0]
          · by_cases hlt : (c : Int) - 2000 ≤ 2000
            · have hcc : IntKind.i64.wrap ((c : Int) - 2000 + 1) = ((c + 1 : Nat) : Int) - 2000 := by rw [wrap_in (by omega) (by omega)]; omega
              have hsu := surfTo_succ l c
              have hbs := befB_succ l c
              have hc2 : -2000 ≤ (c : Int) - 2000 ∧ (c : Int) - 2000 ≤ 2000 := by omega
              unfold surfStep at hsu
              rcases snoc_cases (surfTo l c) with hn | ⟨i, y, hn⟩
              · have v0 : outV (surfTo l c) = .t .nilSl := by rw [hn]; rfl
                have o0 : outH (surfTo l c) = [] := by rw [hn]; rfl
                have hbf : befB l c = false := by
                  rw [← Bool.not_eq_true]
                  intro h
                  obtain ⟨i, y, h1, _⟩ := bef_t h
                  rw [h1] at hn; simp at hn
                simp (decide := true) (maxSteps := 4000000) only [go_sem, Nat.reduceAdd, Nat.reduceSub, Nat.reduceMul, Nat.reduceDiv, Nat.reduceMod, Nat.reduceLT, Nat.reduceLeDiff, Nat.reduceEqDiff, Nat.reduceBEq, Nat.reduceBNe, Nat.reduceGT, Int.reduceAdd, Int.reduceSub, Int.reduceMul, Int.reduceNeg, Int.reduceLT, Int.reduceLE, Int.reduceEq, Int.reduceNe, Int.reduceBEq, Int.reduceBNe, Int.reduceToNat, Int.reduceGT, Int.reduceGE, ↓reduceIte, decide_true, decide_false, eq_self, Nat.mul_one, Nat.zero_mul, Nat.one_mul, Int.le_refl, Nat.le_refl, Int.cast_ofNat_Int, hlt, v0, o0, hbf]
                refine pwpC_loopU (A := { k : Nat // k ≤ l.length }) [0, 6, 7, 8] (fun k => [(10, .t (.int .i64 k.1)), (9, .t (.bool ((l.take k.1).all (fun f => agB f ((c : Int) - 2000)))))]) (fun _ => []) (fun k => l.length - k.1) ⟨0, by omega⟩ (by decide) (fun _ => by rfl) ?_ fun Q3 hQ3 ⟨k, hk⟩ I3 hI3 => ?_
                · simp (decide := true) (maxSteps := 4000000) only [go_sem, Nat.reduceAdd, Nat.reduceSub, Nat.reduceMul, Nat.reduceDiv, Nat.reduceMod, Nat.reduceLT, Nat.reduceLeDiff, Nat.reduceEqDiff, Nat.reduceBEq, Nat.reduceBNe, Nat.reduceGT, Int.reduceAdd, Int.reduceSub, Int.reduceMul, Int.reduceNeg, Int.reduceLT, Int.reduceLE, Int.reduceEq, Int.reduceNe, Int.reduceBEq, Int.reduceBNe, Int.reduceToNat, Int.reduceGT, Int.reduceGE, ↓reduceIte, decide_true, decide_false, eq_self, Nat.mul_one, Nat.zero_mul, Nat.one_mul, Int.le_refl, Nat.le_refl, Int.cast_ofNat_Int, List.take_zero, List.all_nil, v0, o0, hbf]
                · rcases (Bool.eq_false_or_eq_true ((l.take k).all (fun f => agB f ((c : Int) - 2000)))).symm with hka2 | hka2
                  · have hfa : frAll l ((c : Int) - 2000) = false := all_of_take hka2
                    rw [hfa] at hsu hbs
                    simp only [Bool.false_eq_true, if_false] at hsu
                    simp (decide := true) (maxSteps := 4000000) only [go_sem, Nat.reduceAdd, Nat.reduceSub, Nat.reduceMul, Nat.reduceDiv, Nat.reduceMod, Nat.reduceLT, Nat.reduceLeDiff, Nat.reduceEqDiff, Nat.reduceBEq, Nat.reduceBNe, Nat.reduceGT, Int.reduceAdd, Int.reduceSub, Int.reduceMul, Int.reduceNeg, Int.reduceLT, Int.reduceLE, Int.reduceEq, Int.reduceNe, Int.reduceBEq, Int.reduceBNe, Int.reduceToNat, Int.reduceGT, Int.reduceGE, ↓reduceIte, decide_true, decide_false, eq_self, Nat.mul_one, Nat.zero_mul, Nat.one_mul, Int.le_refl, Nat.le_refl, Int.cast_ofNat_Int, hka2, v0, o0, hbf]
                    refine hQ3 _ _ ?_
                    simp (decide := true) (maxSteps := 4000000) only [go_sem, Nat.reduceAdd, Nat.reduceSub, Nat.reduceMul, Nat.reduceDiv, Nat.reduceMod, Nat.reduceLT, Nat.reduceLeDiff, Nat.reduceEqDiff, Nat.reduceBEq, Nat.reduceBNe, Nat.reduceGT, Int.reduceAdd, Int.reduceSub, Int.reduceMul, Int.reduceNeg, Int.reduceLT, Int.reduceLE, Int.reduceEq, Int.reduceNe, Int.reduceBEq, Int.reduceBNe, Int.reduceToNat, Int.reduceGT, Int.reduceGE, ↓reduceIte, decide_true, decide_false, eq_self, Nat.mul_one, Nat.zero_mul, Nat.one_mul, Int.le_refl, Nat.le_refl, Int.cast_ofNat_Int, hka2]
                    refine hI2 _ ⟨c + 1, by omega⟩ (by simp only; omega) ?_
                    simp (decide := true) (maxSteps := 4000000) only [go_sem, Nat.reduceAdd, Nat.reduceSub, Nat.reduceMul, Nat.reduceDiv, Nat.reduceMod, Nat.reduceLT, Nat.reduceLeDiff, Nat.reduceEqDiff, Nat.reduceBEq, Nat.reduceBNe, Nat.reduceGT, Int.reduceAdd, Int.reduceSub, Int.reduceMul, Int.reduceNeg, Int.reduceLT, Int.reduceLE, Int.reduceEq, Int.reduceNe, Int.reduceBEq, Int.reduceBNe, Int.reduceToNat, Int.reduceGT, Int.reduceGE, ↓reduceIte, decide_true, decide_false, eq_self, Nat.mul_one, Nat.zero_mul, Nat.one_mul, Int.le_refl, Nat.le_refl, Int.cast_ofNat_Int, hcc, hsu, hbs, hka2, v0, o0]
                  · by_cases hlt3 : (k : Int) < l.length
                    · obtain ⟨x, hx⟩ := get_lt hlt3
                      have hd := flat_at Fr.cs (n := 5) (fun _ => rfl) hx
                      have hc1 : IntKind.i64.wrap (k + 1) = ((k + 1 : Nat) : Int) := by rw [wrap_in (by omega) (by omega)]; omega
                      have hok := hmem x (List.mem_of_getElem? hx)
                      have ht := take_all (fun f => agB f ((c : Int) - 2000)) hx
                      rw [hka2, Bool.true_and] at ht
                      simp (decide := true) (maxSteps := 4000000) only [go_sem, Nat.reduceAdd, Nat.reduceSub, Nat.reduceMul, Nat.reduceDiv, Nat.reduceMod, Nat.reduceLT, Nat.reduceLeDiff, Nat.reduceEqDiff, Nat.reduceBEq, Nat.reduceBNe, Nat.reduceGT, Int.reduceAdd, Int.reduceSub, Int.reduceMul, Int.reduceNeg, Int.reduceLT, Int.reduceLE, Int.reduceEq, Int.reduceNe, Int.reduceBEq, Int.reduceBNe, Int.reduceToNat, Int.reduceGT, Int.reduceGE, ↓reduceIte, decide_true, decide_false, eq_self, Nat.mul_one, Nat.zero_mul, Nat.one_mul, Int.le_refl, Nat.le_refl, Int.cast_ofNat_Int, hlt3, hka2, hd, Fr.cs, hok, hc2, v0, o0, hbf]
                      refine hI3 _ ⟨k + 1, by omega⟩ (by simp only; omega) ?_
                      simp (decide := true) (maxSteps := 4000000) only [go_sem, Nat.reduceAdd, Nat.reduceSub, Nat.reduceMul, Nat.reduceDiv, Nat.reduceMod, Nat.reduceLT, Nat.reduceLeDiff, Nat.reduceEqDiff, Nat.reduceBEq, Nat.reduceBNe, Nat.reduceGT, Int.reduceAdd, Int.reduceSub, Int.reduceMul, Int.reduceNeg, Int.reduceLT, Int.reduceLE, Int.reduceEq, Int.reduceNe, Int.reduceBEq, Int.reduceBNe, Int.reduceToNat, Int.reduceGT, Int.reduceGE, ↓reduceIte, decide_true, decide_false, eq_self, Nat.mul_one, Nat.zero_mul, Nat.one_mul, Int.le_refl, Nat.le_refl, Int.cast_ofNat_Int, hc1, ht, v0, o0, hbf]
                    · have hke : k = l.length := by omega
                      subst hke
                      have hfa : frAll l ((c : Int) - 2000) = true := by rw [List.take_length] at hka2; exact hka2
                      rw [hfa] at hsu hbs
                      simp only [if_true] at hsu
                      simp (decide := true) (maxSteps := 4000000) only [go_sem, Nat.reduceAdd, Nat.reduceSub, Nat.reduceMul, Nat.reduceDiv, Nat.reduceMod, Nat.reduceLT, Nat.reduceLeDiff, Nat.reduceEqDiff, Nat.reduceBEq, Nat.reduceBNe, Nat.reduceGT, Int.reduceAdd, Int.reduceSub, Int.reduceMul, Int.reduceNeg, Int.reduceLT, Int.reduceLE, Int.reduceEq, Int.reduceNe, Int.reduceBEq, Int.reduceBNe, Int.reduceToNat, Int.reduceGT, Int.reduceGE, ↓reduceIte, decide_true, decide_false, eq_self, Nat.mul_one, Nat.zero_mul, Nat.one_mul, Int.le_refl, Nat.le_refl, Int.cast_ofNat_Int, hlt3, hka2, v0, o0, hbf]
                      refine hQ3 _ _ ?_
                      rw [hn] at hsu
                      simp only [List.getLast?_nil] at hsu
                      have v1 : outV (surfTo l (c + 1)) = .gsl 1 0 2 0 1 false := by rw [hsu]; rfl
                      have o1 : outH (surfTo l (c + 1)) = [(0, .grow 0 [.junk, .junk] 37 2), (1, .grow 0 [.t (.int .i64 ((c : Int) - 2000)), .t (.int .i64 ((c : Int) - 2000))] 37 2)] := by rw [hsu]; rfl
                      simp (decide := true) (maxSteps := 4000000) only [go_sem, Nat.reduceAdd, Nat.reduceSub, Nat.reduceMul, Nat.reduceDiv, Nat.reduceMod, Nat.reduceLT, Nat.reduceLeDiff, Nat.reduceEqDiff, Nat.reduceBEq, Nat.reduceBNe, Nat.reduceGT, Int.reduceAdd, Int.reduceSub, Int.reduceMul, Int.reduceNeg, Int.reduceLT, Int.reduceLE, Int.reduceEq, Int.reduceNe, Int.reduceBEq, Int.reduceBNe, Int.reduceToNat, Int.reduceGT, Int.reduceGE, ↓reduceIte, decide_true, decide_false, eq_self, Nat.mul_one, Nat.zero_mul, Nat.one_mul, Int.le_refl, Nat.le_refl, Int.cast_ofNat_Int, v0, o0, hka2, hbf]
                      refine hI2 _ ⟨c + 1, by omega⟩ (by simp only; omega) ?_
                      simp (decide := true) (maxSteps := 4000000) only [go_sem, Nat.reduceAdd, Nat.reduceSub, Nat.reduceMul, Nat.reduceDiv, Nat.reduceMod, Nat.reduceLT, Nat.reduceLeDiff, Nat.reduceEqDiff, Nat.reduceBEq, Nat.reduceBNe, Nat.reduceGT, Int.reduceAdd, Int.reduceSub, Int.reduceMul, Int.reduceNeg, Int.reduceLT, Int.reduceLE, Int.reduceEq, Int.reduceNe, Int.reduceBEq, Int.reduceBNe, Int.reduceToNat, Int.reduceGT, Int.reduceGE, ↓reduceIte, decide_true, decide_false, eq_self, Nat.mul_one, Nat.zero_mul, Nat.one_mul, Int.le_refl, Nat.le_refl, Int.cast_ofNat_Int, hcc, v1, o1, hbs, hka2]
              · obtain ⟨m, hm⟩ : ∃ m, i.length = m := ⟨_, rfl⟩
                have hml := surf_len l c
                rw [hn, List.length_append, hm, List.length_cons, List.length_nil] at hml
                have v0 : outV (surfTo l c) = .gsl 1 m 2 0 (m + 1) false := by rw [hn]; unfold outV; simp [hm]
                have o0 : outH (surfTo l c) = [(0, .grow 0 [.junk, .junk] 37 2), (1, .grow m (((i.flatMap Span.cs).map .t) ++ [.t (.int .i64 y.lo), .t (.int .i64 y.hi)]) 37 2)] := by rw [hn]; unfold outH; simp [hm, Span.cs]
                have hcw : ∀ L : List PO, cellsW L ((i.flatMap Span.cs).map PV.t ++ [PV.t (.int .i64 y.lo), PV.t (.int .i64 y.hi)]) ((i.flatMap Span.cs).map PV.t ++ [PV.t (.int .i64 y.lo), PV.t (.int .i64 y.hi)]) = True := fun L => eq_true (by
                  have := cellsW_tt L (i.flatMap Span.cs ++ [.int .i64 y.lo, .int .i64 y.hi])
                  simpa using this)
                have hun2 : ((i.flatMap Span.cs).map PV.t ++ [PV.t (.int .i64 y.lo), PV.t (.int .i64 ((c : Int) - 2000))]).all (PV.under 2) = true := by simp [PV.under]
                have hcw2 : ∀ L : List PO, cellsW L ((i.flatMap Span.cs).map PV.t ++ [PV.t (.int .i64 y.lo), PV.t (.int .i64 ((c : Int) - 2000))]) ((i.flatMap Span.cs).map PV.t ++ [PV.t (.int .i64 y.lo), PV.t (.int .i64 ((c : Int) - 2000))]) = True := fun L => eq_true (by
                  have := cellsW_tt L (i.flatMap Span.cs ++ [.int .i64 y.lo, .int .i64 ((c : Int) - 2000)])
                  simpa using this)
                have hun3 : ((i.flatMap Span.cs).map PV.t ++ [PV.t (.int .i64 y.lo), PV.t (.int .i64 y.hi)] ++ [PV.t (.int .i64 ((c : Int) - 2000)), PV.t (.int .i64 ((c : Int) - 2000))]).all (PV.under 2) = true := by simp [PV.under]
                have hcw3 : ∀ L : List PO, cellsW L ((i.flatMap Span.cs).map PV.t ++ [PV.t (.int .i64 y.lo), PV.t (.int .i64 y.hi)] ++ [PV.t (.int .i64 ((c : Int) - 2000)), PV.t (.int .i64 ((c : Int) - 2000))]) ((i.flatMap Span.cs).map PV.t ++ [PV.t (.int .i64 y.lo), PV.t (.int .i64 y.hi)] ++ [PV.t (.int .i64 ((c : Int) - 2000)), PV.t (.int .i64 ((c : Int) - 2000))]) = True := fun L => eq_true (by
                  have := cellsW_tt L (i.flatMap Span.cs ++ [.int .i64 y.lo, .int .i64 y.hi] ++ [.int .i64 ((c : Int) - 2000), .int .i64 ((c : Int) - 2000)])
                  simpa using this)
                obtain ⟨q1, q2, q3⟩ := surf_cells i y ((c : Int) - 2000) hm
                have wm : IntKind.i64.wrap (((m + 1 : Nat) : Int) - 1) = (m : Int) := by rw [wrap_in (by omega) (by omega)]; omega
                have m0 : (0 : Int) ≤ m := by omega
                have m1 : (m : Int) < ((m + 1 : Nat) : Int) := by omega
                have m2 : ((m + 1 : Nat) : Int) > 0 := by omega
                have hle : m * 2 + 1 + 1 ≤ (m + 1) * 2 := by omega
                have hroom : (m + 1 + 1) * 16 ≤ 140737488355328 := by omega
                have wc : IntKind.i64.wrap ((c : Int) - 2000 - 1) = (c : Int) - 2000 - 1 := wrap_in (by omega) (by omega)
                have hun : ((i.flatMap Span.cs).map PV.t ++ [PV.t (.int .i64 y.lo), PV.t (.int .i64 y.hi)]).all (PV.under 2) = true := by simp [PV.under]
                have b_f : befB l c = false → ¬ y.hi = (c : Int) - 2000 - 1 := fun h => bef_f h hn
                have b_t : befB l c = true → y.hi = (c : Int) - 2000 - 1 := fun h => by
                  obtain ⟨i', y', h1, h2⟩ := bef_t h
                  rw [hn] at h1
                  have := List.append_inj_right' h1 rfl
                  simp only [List.cons.injEq, and_true] at this
                  rw [this]; exact h2
                simp (decide := true) (maxSteps := 4000000) only [go_sem, Nat.reduceAdd, Nat.reduceSub, Nat.reduceMul, Nat.reduceDiv, Nat.reduceMod, Nat.reduceLT, Nat.reduceLeDiff, Nat.reduceEqDiff, Nat.reduceBEq, Nat.reduceBNe, Nat.reduceGT, Int.reduceAdd, Int.reduceSub, Int.reduceMul, Int.reduceNeg, Int.reduceLT, Int.reduceLE, Int.reduceEq, Int.reduceNe, Int.reduceBEq, Int.reduceBNe, Int.reduceToNat, Int.reduceGT, Int.reduceGE, ↓reduceIte, decide_true, decide_false, eq_self, Nat.mul_one, Nat.zero_mul, Nat.one_mul, Int.le_refl, Nat.le_refl, Int.cast_ofNat_Int, hlt, v0, o0, hun, hcw]
                refine pwpC_loopU (A := { k : Nat // k ≤ l.length }) [0, 6, 7, 8] (fun k => [(10, .t (.int .i64 k.1)), (9, .t (.bool ((l.take k.1).all (fun f => agB f ((c : Int) - 2000)))))]) (fun _ => []) (fun k => l.length - k.1) ⟨0, by omega⟩ (by decide) (fun _ => by rfl) ?_ fun Q3 hQ3 ⟨k, hk⟩ I3 hI3 => ?_
                · simp (decide := true) (maxSteps := 4000000) only [go_sem, Nat.reduceAdd, Nat.reduceSub, Nat.reduceMul, Nat.reduceDiv, Nat.reduceMod, Nat.reduceLT, Nat.reduceLeDiff, Nat.reduceEqDiff, Nat.reduceBEq, Nat.reduceBNe, Nat.reduceGT, Int.reduceAdd, Int.reduceSub, Int.reduceMul, Int.reduceNeg, Int.reduceLT, Int.reduceLE, Int.reduceEq, Int.reduceNe, Int.reduceBEq, Int.reduceBNe, Int.reduceToNat, Int.reduceGT, Int.reduceGE, ↓reduceIte, decide_true, decide_false, eq_self, Nat.mul_one, Nat.zero_mul, Nat.one_mul, Int.le_refl, Nat.le_refl, Int.cast_ofNat_Int, List.take_zero, List.all_nil, v0, o0, hun, hcw]
                · rcases (Bool.eq_false_or_eq_true ((l.take k).all (fun f => agB f ((c : Int) - 2000)))).symm with hka2 | hka2
                  · have hfa : frAll l ((c : Int) - 2000) = false := all_of_take hka2
                    rw [hfa] at hsu hbs
                    simp only [Bool.false_eq_true, if_false] at hsu
                    simp (decide := true) (maxSteps := 4000000) only [go_sem, Nat.reduceAdd, Nat.reduceSub, Nat.reduceMul, Nat.reduceDiv, Nat.reduceMod, Nat.reduceLT, Nat.reduceLeDiff, Nat.reduceEqDiff, Nat.reduceBEq, Nat.reduceBNe, Nat.reduceGT, Int.reduceAdd, Int.reduceSub, Int.reduceMul, Int.reduceNeg, Int.reduceLT, Int.reduceLE, Int.reduceEq, Int.reduceNe, Int.reduceBEq, Int.reduceBNe, Int.reduceToNat, Int.reduceGT, Int.reduceGE, ↓reduceIte, decide_true, decide_false, eq_self, Nat.mul_one, Nat.zero_mul, Nat.one_mul, Int.le_refl, Nat.le_refl, Int.cast_ofNat_Int, hka2, v0, o0, hun, hcw]
                    refine hQ3 _ _ ?_
                    simp (decide := true) (maxSteps := 4000000) only [go_sem, Nat.reduceAdd, Nat.reduceSub, Nat.reduceMul, Nat.reduceDiv, Nat.reduceMod, Nat.reduceLT, Nat.reduceLeDiff, Nat.reduceEqDiff, Nat.reduceBEq, Nat.reduceBNe, Nat.reduceGT, Int.reduceAdd, Int.reduceSub, Int.reduceMul, Int.reduceNeg, Int.reduceLT, Int.reduceLE, Int.reduceEq, Int.reduceNe, Int.reduceBEq, Int.reduceBNe, Int.reduceToNat, Int.reduceGT, Int.reduceGE, ↓reduceIte, decide_true, decide_false, eq_self, Nat.mul_one, Nat.zero_mul, Nat.one_mul, Int.le_refl, Nat.le_refl, Int.cast_ofNat_Int, hka2]
                    refine hI2 _ ⟨c + 1, by omega⟩ (by simp only; omega) ?_
                    simp (decide := true) (maxSteps := 4000000) only [go_sem, Nat.reduceAdd, Nat.reduceSub, Nat.reduceMul, Nat.reduceDiv, Nat.reduceMod, Nat.reduceLT, Nat.reduceLeDiff, Nat.reduceEqDiff, Nat.reduceBEq, Nat.reduceBNe, Nat.reduceGT, Int.reduceAdd, Int.reduceSub, Int.reduceMul, Int.reduceNeg, Int.reduceLT, Int.reduceLE, Int.reduceEq, Int.reduceNe, Int.reduceBEq, Int.reduceBNe, Int.reduceToNat, Int.reduceGT, Int.reduceGE, ↓reduceIte, decide_true, decide_false, eq_self, Nat.mul_one, Nat.zero_mul, Nat.one_mul, Int.le_refl, Nat.le_refl, Int.cast_ofNat_Int, hcc, hsu, hbs, hka2, v0, o0, hun, hcw]
                  · by_cases hlt3 : (k : Int) < l.length
                    · obtain ⟨x, hx⟩ := get_lt hlt3
                      have hd := flat_at Fr.cs (n := 5) (fun _ => rfl) hx
                      have hc1 : IntKind.i64.wrap (k + 1) = ((k + 1 : Nat) : Int) := by rw [wrap_in (by omega) (by omega)]; omega
                      have hok := hmem x (List.mem_of_getElem? hx)
                      have ht := take_all (fun f => agB f ((c : Int) - 2000)) hx
                      rw [hka2, Bool.true_and] at ht
                      simp (decide := true) (maxSteps := 4000000) only [go_sem, Nat.reduceAdd, Nat.reduceSub, Nat.reduceMul, Nat.reduceDiv, Nat.reduceMod, Nat.reduceLT, Nat.reduceLeDiff, Nat.reduceEqDiff, Nat.reduceBEq, Nat.reduceBNe, Nat.reduceGT, Int.reduceAdd, Int.reduceSub, Int.reduceMul, Int.reduceNeg, Int.reduceLT, Int.reduceLE, Int.reduceEq, Int.reduceNe, Int.reduceBEq, Int.reduceBNe, Int.reduceToNat, Int.reduceGT, Int.reduceGE, ↓reduceIte, decide_true, decide_false, eq_self, Nat.mul_one, Nat.zero_mul, Nat.one_mul, Int.le_refl, Nat.le_refl, Int.cast_ofNat_Int, hlt3, hka2, hd, Fr.cs, hok, hc2, v0, o0, hun, hcw]
                      refine hI3 _ ⟨k + 1, by omega⟩ (by simp only; omega) ?_
                      simp (decide := true) (maxSteps := 4000000) only [go_sem, Nat.reduceAdd, Nat.reduceSub, Nat.reduceMul, Nat.reduceDiv, Nat.reduceMod, Nat.reduceLT, Nat.reduceLeDiff, Nat.reduceEqDiff, Nat.reduceBEq, Nat.reduceBNe, Nat.reduceGT, Int.reduceAdd, Int.reduceSub, Int.reduceMul, Int.reduceNeg, Int.reduceLT, Int.reduceLE, Int.reduceEq, Int.reduceNe, Int.reduceBEq, Int.reduceBNe, Int.reduceToNat, Int.reduceGT, Int.reduceGE, ↓reduceIte, decide_true, decide_false, eq_self, Nat.mul_one, Nat.zero_mul, Nat.one_mul, Int.le_refl, Nat.le_refl, Int.cast_ofNat_Int, hc1, ht, v0, o0, hun, hcw]
                    · have hke : k = l.length := by omega
                      subst hke
                      have hfa : frAll l ((c : Int) - 2000) = true := by rw [List.take_length] at hka2; exact hka2
                      rw [hfa] at hsu hbs
                      simp only [if_true] at hsu
                      simp (decide := true) (maxSteps := 4000000) only [go_sem, Nat.reduceAdd, Nat.reduceSub, Nat.reduceMul, Nat.reduceDiv, Nat.reduceMod, Nat.reduceLT, Nat.reduceLeDiff, Nat.reduceEqDiff, Nat.reduceBEq, Nat.reduceBNe, Nat.reduceGT, Int.reduceAdd, Int.reduceSub, Int.reduceMul, Int.reduceNeg, Int.reduceLT, Int.reduceLE, Int.reduceEq, Int.reduceNe, Int.reduceBEq, Int.reduceBNe, Int.reduceToNat, Int.reduceGT, Int.reduceGE, ↓reduceIte, decide_true, decide_false, eq_self, Nat.mul_one, Nat.zero_mul, Nat.one_mul, Int.le_refl, Nat.le_refl, Int.cast_ofNat_Int, hlt3, hka2, v0, o0, hun, hcw]
                      refine hQ3 _ _ ?_
                      rw [hn, List.getLast?_append] at hsu
                      simp only [List.getLast?_singleton, Option.some_or] at hsu
                      rcases (Bool.eq_false_or_eq_true (befB l c)).symm with hbf | hbf
                      · have hy := b_f hbf
                        rw [if_neg hy] at hsu
                        have v1 : outV (surfTo l (c + 1)) = .gsl 1 (m + 1) 2 0 (m + 1 + 1) false := by rw [hsu]; unfold outV; simp [hm]
                        have o1 : outH (surfTo l (c + 1)) = [(0, .grow 0 [.junk, .junk] 37 2), (1, .grow (m + 1) (((i.flatMap Span.cs).map .t) ++ [.t (.int .i64 y.lo), .t (.int .i64 y.hi)] ++ [.t (.int .i64 ((c : Int) - 2000)), .t (.int .i64 ((c : Int) - 2000))]) 37 2)] := by rw [hsu]; unfold outH; simp [hm, Span.cs]
                        simp (decide := true) (maxSteps := 4000000) only [go_sem, Nat.reduceAdd, Nat.reduceSub, Nat.reduceMul, Nat.reduceDiv, Nat.reduceMod, Nat.reduceLT, Nat.reduceLeDiff, Nat.reduceEqDiff, Nat.reduceBEq, Nat.reduceBNe, Nat.reduceGT, Int.reduceAdd, Int.reduceSub, Int.reduceMul, Int.reduceNeg, Int.reduceLT, Int.reduceLE, Int.reduceEq, Int.reduceNe, Int.reduceBEq, Int.reduceBNe, Int.reduceToNat, Int.reduceGT, Int.reduceGE, ↓reduceIte, decide_true, decide_false, eq_self, Nat.mul_one, Nat.zero_mul, Nat.one_mul, Int.le_refl, Nat.le_refl, Int.cast_ofNat_Int, v0, o0, hbf, hka2, wm, m0, m1, m2, wc, q1, q2, q3, hle, hroom, Int.toNat_natCast]
                        refine hI2 _ ⟨c + 1, by omega⟩ (by simp only; omega) ?_
                        simp (decide := true) (maxSteps := 4000000) only [go_sem, Nat.reduceAdd, Nat.reduceSub, Nat.reduceMul, Nat.reduceDiv, Nat.reduceMod, Nat.reduceLT, Nat.reduceLeDiff, Nat.reduceEqDiff, Nat.reduceBEq, Nat.reduceBNe, Nat.reduceGT, Int.reduceAdd, Int.reduceSub, Int.reduceMul, Int.reduceNeg, Int.reduceLT, Int.reduceLE, Int.reduceEq, Int.reduceNe, Int.reduceBEq, Int.reduceBNe, Int.reduceToNat, Int.reduceGT, Int.reduceGE, ↓reduceIte, decide_true, decide_false, eq_self, Nat.mul_one, Nat.zero_mul, Nat.one_mul, Int.le_refl, Nat.le_refl, Int.cast_ofNat_Int, hcc, v1, o1, hbs, hka2, hun3, hcw3]
                      · have hy := b_t hbf
                        rw [if_pos hy, List.dropLast_concat] at hsu
                        have v1 : outV (surfTo l (c + 1)) = .gsl 1 m 2 0 (m + 1) false := by rw [hsu]; unfold outV; simp [hm]
                        have o1 : outH (surfTo l (c + 1)) = [(0, .grow 0 [.junk, .junk] 37 2), (1, .grow m (((i.flatMap Span.cs).map .t) ++ [.t (.int .i64 y.lo), .t (.int .i64 ((c : Int) - 2000))]) 37 2)] := by rw [hsu]; unfold outH; simp [hm, Span.cs]
                        simp (decide := true) (maxSteps := 4000000) only [go_sem, Nat.reduceAdd, Nat.reduceSub, Nat.reduceMul, Nat.reduceDiv, Nat.reduceMod, Nat.reduceLT, Nat.reduceLeDiff, Nat.reduceEqDiff, Nat.reduceBEq, Nat.reduceBNe, Nat.reduceGT, Int.reduceAdd, Int.reduceSub, Int.reduceMul, Int.reduceNeg, Int.reduceLT, Int.reduceLE, Int.reduceEq, Int.reduceNe, Int.reduceBEq, Int.reduceBNe, Int.reduceToNat, Int.reduceGT, Int.reduceGE, ↓reduceIte, decide_true, decide_false, eq_self, Nat.mul_one, Nat.zero_mul, Nat.one_mul, Int.le_refl, Nat.le_refl, Int.cast_ofNat_Int, v0, o0, hbf, hka2, wm, m0, m1, m2, wc, q1, q2, q3, hle, hroom, Int.toNat_natCast]
                        refine hI2 _ ⟨c + 1, by omega⟩ (by simp only; omega) ?_
                        simp (decide := true) (maxSteps := 4000000) only [go_sem, Nat.reduceAdd, Nat.reduceSub, Nat.reduceMul, Nat.reduceDiv, Nat.reduceMod, Nat.reduceLT, Nat.reduceLeDiff, Nat.reduceEqDiff, Nat.reduceBEq, Nat.reduceBNe, Nat.reduceGT, Int.reduceAdd, Int.reduceSub, Int.reduceMul, Int.reduceNeg, Int.reduceLT, Int.reduceLE, Int.reduceEq, Int.reduceNe, Int.reduceBEq, Int.reduceBNe, Int.reduceToNat, Int.reduceGT, Int.reduceGE, ↓reduceIte, decide_true, decide_false, eq_self, Nat.mul_one, Nat.zero_mul, Nat.one_mul, Int.le_refl, Nat.le_refl, Int.cast_ofNat_Int, hcc, v1, o1, hbs, hka2, hun2, hcw2]
            · have hce : c = 4001 := by omega
              subst hce
              simp (decide := true) (maxSteps := 4000000) only [go_sem, Nat.reduceAdd, Nat.reduceSub, Nat.reduceMul, Nat.reduceDiv, Nat.reduceMod, Nat.reduceLT, Nat.reduceLeDiff, Nat.reduceEqDiff, Nat.reduceBEq, Nat.reduceBNe, Nat.reduceGT, Int.reduceAdd, Int.reduceSub, Int.reduceMul, Int.reduceNeg, Int.reduceLT, Int.reduceLE, Int.reduceEq, Int.reduceNe, Int.reduceBEq, Int.reduceBNe, Int.reduceToNat, Int.reduceGT, Int.reduceGE, ↓reduceIte, decide_true, decide_false, eq_self, Nat.mul_one, Nat.zero_mul, Nat.one_mul, Int.le_refl, Nat.le_refl, Int.cast_ofNat_Int, hlt]
              refine hQ2 _ _ ?_
              rcases snoc_cases (surfTo l 4001) with hn | ⟨i, y, hn⟩
              · have v0 : outV (surfTo l 4001) = .t .nilSl := by rw [hn]; rfl
                have o0 : outH (surfTo l 4001) = [] := by rw [hn]; rfl
                have hne : (surfTo l 4001 = []) = True := eq_true hn
                simp (decide := true) (maxSteps := 4000000) only [go_sem, Nat.reduceAdd, Nat.reduceSub, Nat.reduceMul, Nat.reduceDiv, Nat.reduceMod, Nat.reduceLT, Nat.reduceLeDiff, Nat.reduceEqDiff, Nat.reduceBEq, Nat.reduceBNe, Nat.reduceGT, Int.reduceAdd, Int.reduceSub, Int.reduceMul, Int.reduceNeg, Int.reduceLT, Int.reduceLE, Int.reduceEq, Int.reduceNe, Int.reduceBEq, Int.reduceBNe, Int.reduceToNat, Int.reduceGT, Int.reduceGE, ↓reduceIte, decide_true, decide_false, eq_self, Nat.mul_one, Nat.zero_mul, Nat.one_mul, Int.le_refl, Nat.le_refl, Int.cast_ofNat_Int, v0, o0, hne, List.length_nil]
              · obtain ⟨m, hm⟩ : ∃ m, i.length = m := ⟨_, rfl⟩
                have v0 : outV (surfTo l 4001) = .gsl 1 m 2 0 (m + 1) false := by rw [hn]; unfold outV; simp [hm]
                have o0 : outH (surfTo l 4001) = [(0, .grow 0 [.junk, .junk] 37 2), (1, .grow m (((i.flatMap Span.cs).map .t) ++ [.t (.int .i64 y.lo), .t (.int .i64 y.hi)]) 37 2)] := by rw [hn]; unfold outH; simp [hm, Span.cs]
                have hne : ¬ surfTo l 4001 = [] := by rw [hn]; simp
                have hll : (surfTo l 4001).length = m + 1 := by rw [hn]; simp [hm]
                have m0 : ¬ m + 1 = 0 := by omega
                have m1 : (0 : Int) ≤ ((m + 1 : Nat) : Int) := by omega
                have hids : ((i.flatMap Span.cs).map PV.t ++ [PV.t (.int .i64 y.lo), PV.t (.int .i64 y.hi)]).flatMap idsG = [] := by
                  have := idsG_tt (i.flatMap Span.cs ++ [.int .i64 y.lo, .int .i64 y.hi])
                  simpa using this
                have hth : ∀ h : Hp, allO (((i.flatMap Span.cs).map PV.t ++ [PV.t (.int .i64 y.lo), PV.t (.int .i64 y.hi)]).map (thawC h)) = some ((surfTo l 4001).flatMap Span.cs) := by
                  intro h
                  have := thawC_tt h (i.flatMap Span.cs ++ [.int .i64 y.lo, .int .i64 y.hi])
                  rw [hn]
                  simpa [Span.cs] using this
                have hfl : ((surfTo l 4001).flatMap Span.cs).length = (m + 1) * 2 := by rw [flat_len Span.cs (n := 2) (fun _ => rfl), hll]
                have htk : ((surfTo l 4001).flatMap Span.cs).take ((m + 1) * 2) = (surfTo l 4001).flatMap Span.cs := List.take_of_length_le (by omega)
                have hall : allO (((i.flatMap Span.cs).map PV.t ++ [PV.t (.int .i64 y.lo), PV.t (.int .i64 y.hi)]).map PV.toT) = some ((surfTo l 4001).flatMap Span.cs) := by
                  have := allO_t (i.flatMap Span.cs ++ [.int .i64 y.lo, .int .i64 y.hi])
                  rw [hn]
                  simpa [Span.cs] using this
                have hz : (((m + 1 : Nat) : Int) == 0) = false := beq_int_f (by omega)
                simp (decide := true) (maxSteps := 4000000) only [go_sem, Nat.reduceAdd, Nat.reduceSub, Nat.reduceMul, Nat.reduceDiv, Nat.reduceMod, Nat.reduceLT, Nat.reduceLeDiff, Nat.reduceEqDiff, Nat.reduceBEq, Nat.reduceBNe, Nat.reduceGT, Int.reduceAdd, Int.reduceSub, Int.reduceMul, Int.reduceNeg, Int.reduceLT, Int.reduceLE, Int.reduceEq, Int.reduceNe, Int.reduceBEq, Int.reduceBNe, Int.reduceToNat, Int.reduceGT, Int.reduceGE, ↓reduceIte, decide_true, decide_false, eq_self, Nat.mul_one, Nat.zero_mul, Nat.one_mul, Int.le_refl, Nat.le_refl, Int.cast_ofNat_Int, hz, hids, hall, hth, hfl, htk, thawA, List.drop_zero, Nat.zero_add, List.foldl_nil, List.foldl_cons, v0, o0, hne, hll, m0, m1, Int.toNat_natCast, Nat.sub_zero, sliceG, Option.isSome_some, freezeW, freezeO, closedG, seenF, wr, upo]
noncomputable def rSurface : List TV → Option TV
  | [s] => match rowL unFrs s with
    | some l => if l.length ≤ 5864062014806 then some (.tup [if (surfP l).1.length = 0 then .nilSl else .sl ((surfP l).1.flatMap Span.cs) (surfP l).1.length false, .int .i64 (surfP l).2]) else none
    | none => none
  | _ => none
theorem rSurface_ok : ∀ xs r, rSurface xs = some r → PCalls Try.prog 31 xs r := by
  intro xs r h
  unfold rSurface at h
  split at h
  · split at h
    · rename_i l hl
      have hl := rowL_some (un := unFrs) rfl (@unFrs_some) hl
      split at h
      · rename_i hc; cases h; exact r4Surface_c hl hc
      · cases h
    · cases h
  · cases h
attribute [go_sem] rSurface
noncomputable def spJ2 : Pm.Spec := spI1.one 31 rSurface
@[go_sem] theorem spJ2_p (f : FuncId) (xs : List TV) : spJ2.p f xs = Pm.Spec.p (spI1.one 31 rSurface) f xs := rfl
@[go_sem] theorem spJ2_h (f : FuncId) (ps : List PV) (hl : List PO) : spJ2.h f ps hl = Pm.Spec.h (spI1.one 31 rSurface) f ps hl := rfl
@[go_sem] theorem spJ2_fz (f : FuncId) : spJ2.fz f = Pm.Spec.fz (spI1.one 31 rSurface) f := rfl
@[go_sem] theorem spJ2_fr (f : FuncId) : spJ2.fr f = Pm.Spec.fr (spI1.one 31 rSurface) f := rfl
@[go_sem] theorem spJ2_mu (t : TypeId) : spJ2.mu t = Pm.Spec.mu (spI1.one 31 rSurface) t := rfl
theorem spJ2_ok : SpecOk Try.prog spJ2 := Spec.one_ok rSurface_ok spI1_ok
theorem surfP_len (l : List Fr) : (surfP l).1.length ≤ 4001 := by
  have := surf_len l 4001
  unfold surfP
  split
  · simp
  · split
    · simp
    · exact this
theorem GlassSurfaces_c {l : List Fr} {s : TV} (hs : IsRow Fr.cs s l) (hl : l.length ≤ 5864062014806) : PCalls Try.prog 6 [s] (.bool true) := by
  have rF := rowF_is hs
  have hln := surfP_len l
  obtain ⟨S, hS⟩ : ∃ S, (surfP l).1 = S := ⟨_, rfl⟩
  rw [hS] at hln
  have hl2 : S.length ≤ 9223372036854775806 := by omega
  have un : unSpans [] = some [] := rfl
  have h00 : (0 : Nat) ≤ 9223372036854775806 := by omega
  unfold rowL at rF
  refine pcalls_by Try.mixes spJ2_ok (fn := Try.f6) Try.func6 rfl (by kernel_rfl) (by show 1 ≤ _; decide) ?_
  by_cases h0 : S.length = 0
  · simp (decide := true) (maxSteps := 4000000) only [go_sem, Nat.reduceAdd, Nat.reduceSub, Nat.reduceMul, Nat.reduceDiv, Nat.reduceMod, Nat.reduceLT, Nat.reduceLeDiff, Nat.reduceEqDiff, Nat.reduceBEq, Nat.reduceBNe, Nat.reduceGT, Int.reduceAdd, Int.reduceSub, Int.reduceMul, Int.reduceNeg, Int.reduceLT, Int.reduceLE, Int.reduceEq, Int.reduceNe, Int.reduceBEq, Int.reduceBNe, Int.reduceToNat, Int.reduceGT, Int.reduceGE, ↓reduceIte, decide_true, decide_false, eq_self, Nat.mul_one, Nat.zero_mul, Nat.one_mul, Int.le_refl, Nat.le_refl, Int.cast_ofNat_Int, Try.f6, rF, hl, hS, h0, un, h00, List.length_nil, beq_self_eq_true]
  · simp (decide := true) (maxSteps := 4000000) only [go_sem, Nat.reduceAdd, Nat.reduceSub, Nat.reduceMul, Nat.reduceDiv, Nat.reduceMod, Nat.reduceLT, Nat.reduceLeDiff, Nat.reduceEqDiff, Nat.reduceBEq, Nat.reduceBNe, Nat.reduceGT, Int.reduceAdd, Int.reduceSub, Int.reduceMul, Int.reduceNeg, Int.reduceLT, Int.reduceLE, Int.reduceEq, Int.reduceNe, Int.reduceBEq, Int.reduceBNe, Int.reduceToNat, Int.reduceGT, Int.reduceGE, ↓reduceIte, decide_true, decide_false, eq_self, Nat.mul_one, Nat.zero_mul, Nat.one_mul, Int.le_refl, Nat.le_refl, Int.cast_ofNat_Int, Try.f6, rF, hl, hS, h0, hl2, beq_self_eq_true]
end Go.Proofs.Ytcjcnmpecmbdeaa

/- Part Gl. -/
namespace Go.Oc
open Go Go.Pm
theorem obs2_at {m i j a b c : Nat} (hb : b < m) (hc : c < m) (ha : a < m) : (obs2 m i j)[(a * m + b) * m + c]? = some ⟨i, j, a, b, c⟩ := by
  have hm : 0 < m := by omega
  have e1 : ((a * m + b) * m + c) % m = c := by rw [Nat.mul_comm, Nat.mul_add_mod]; exact Nat.mod_eq_of_lt hc
  have e2 : ((a * m + b) * m + c) / m = a * m + b := by rw [Nat.mul_comm (a * m + b) m, Nat.mul_add_div hm, Nat.div_eq_of_lt hc, Nat.add_zero]
  have e3 : (a * m + b) % m = b := by rw [Nat.mul_comm, Nat.mul_add_mod]; exact Nat.mod_eq_of_lt hb
  have e4 : (a * m + b) / m = a := by rw [Nat.mul_comm a m, Nat.mul_add_div hm, Nat.div_eq_of_lt hb, Nat.add_zero]
  have h1 : (a * m + b) * m + c < m * m * m := by
    have q1 : a * m + b + 1 ≤ m * m := by
      have := Nat.mul_le_mul_right m (show a + 1 ≤ m by omega)
      rw [Nat.add_mul, Nat.one_mul] at this
      omega
    have q2 := Nat.mul_le_mul_right m q1
    rw [Nat.add_mul, Nat.one_mul] at q2
    omega
  unfold obs2
  rw [List.getElem?_map, List.getElem?_range h1]
  simp only [Option.map_some, e1, e2, e3, e4]
/-- The better one of two. -/
def cmb (X Y : Bst) : Bst := if Y.is = true ∧ (X.is = false ∨ Y.n < X.n ∨ Y.n = X.n ∧ Y.p < X.p) then Y else X
def sgl (B : List Blank) (T : List Span) (w : Want) (o : Ob) : Bst := if goodB (spansP B T o) w then ⟨o, worstS (spansP B T o).c, priceO B o, true⟩ else bst0
theorem cmb_zero {X : Bst} (h : X.is = false → X = bst0) : cmb bst0 X = X := by
  unfold cmb
  cases hi : X.is with
  | true => rw [if_pos ⟨rfl, .inl rfl⟩]
  | false => rw [if_neg (by rintro ⟨h, _⟩; cases h)]; exact (h hi).symm
theorem bstStep_cmb (B : List Blank) (T : List Span) (w : Want) (X : Bst) (o : Ob) : bstStep B T w X o = cmb X (sgl B T w o) := by
  unfold bstStep cmb sgl
  cases goodB (spansP B T o) w with
  | true => simp
  | false => simp [bst0]
theorem cmb_assoc (X Y Z : Bst) : cmb (cmb X Y) Z = cmb X (cmb Y Z) := by
  obtain ⟨xo, xn, xp, xi⟩ := X
  obtain ⟨yo, yn, yp, yi⟩ := Y
  obtain ⟨zo, zn, zp, zi⟩ := Z
  have t1 : (yn < xn ∨ yn = xn ∧ yp < xp) → (zn < yn ∨ zn = yn ∧ zp < yp) → (zn < xn ∨ zn = xn ∧ zp < xp) := by omega
  have t2 : ¬ (yn < xn ∨ yn = xn ∧ yp < xp) → ¬ (zn < yn ∨ zn = yn ∧ zp < yp) → ¬ (zn < xn ∨ zn = xn ∧ zp < xp) := by omega
  unfold cmb
  by_cases a : yn < xn ∨ yn = xn ∧ yp < xp <;> by_cases b : zn < yn ∨ zn = yn ∧ zp < yp <;> by_cases c : zn < xn ∨ zn = xn ∧ zp < xp
  all_goals first | exact absurd (t1 a b) c | exact absurd c (t2 a b) | skip
  all_goals cases xi <;> cases yi <;> cases zi <;> simp [a, b, c]
theorem fold_cmb (B : List Blank) (T : List Span) (w : Want) : ∀ (L : List Ob) (X : Bst), L.foldl (bstStep B T w) X = cmb X (L.foldl (bstStep B T w) bst0)
  | [], X => by simp [cmb, bst0]
  | o :: L, X => by
    have h0 : ∀ o, (sgl B T w o).is = false → sgl B T w o = bst0 := by
      intro o h
      unfold sgl at h ⊢
      split at h
      · cases h
      · rename_i hg; rw [if_neg hg]
    rw [List.foldl_cons, List.foldl_cons, fold_cmb B T w L (bstStep B T w X o), fold_cmb B T w L (bstStep B T w bst0 o), bstStep_cmb, bstStep_cmb, cmb_assoc, cmb_zero (h0 o)]
/-- All objectives of two blanks cost the same. -/
theorem fold_price (B : List Blank) (T : List Span) (w : Want) (P : Int) : ∀ (L : List Ob) (X : Bst), (∀ o ∈ L, priceO B o = P) → (X.is = true → X.p = P) → (L.foldl (bstStep B T w) X).is = true → (L.foldl (bstStep B T w) X).p = P
  | [], _, _, hX, h => hX h
  | o :: L, X, hL, hX, h => by
    rw [List.foldl_cons] at h ⊢
    refine fold_price B T w P L _ (fun o' ho' => hL o' (List.mem_cons_of_mem _ ho')) ?_ h
    intro h'
    unfold bstStep at h' ⊢
    split at h' <;> rename_i hg
    · rw [if_pos hg]
      split at h' <;> rename_i hc
      · rw [if_pos hc]; exact hL o (by simp)
      · rw [if_neg hc]; exact hX h'
    · rw [if_neg hg]; exact hX h'
theorem obs2_price (B : List Blank) {m i j : Nat} {o : Ob} (h : o ∈ obs2 m i j) : priceO B o = (blankAt B (i : Int)).pr + (blankAt B (j : Int)).pr := by
  unfold obs2 at h
  obtain ⟨t, _, rfl⟩ := List.mem_map.1 h
  rfl
def bst2 (B : List Blank) (T : List Span) (w : Want) (i j k : Nat) : Bst := ((obs2 T.length i j).take k).foldl (bstStep B T w) bst0
theorem bst2_succ {B : List Blank} {T : List Span} (w : Want) {i j k : Nat} {o : Ob} (h : (obs2 T.length i j)[k]? = some o) : bst2 B T w i j (k + 1) = bstStep B T w (bst2 B T w i j k) o := by
  unfold bst2; rw [take_snoc h, List.foldl_append]; rfl
def bstA (B : List Blank) (T : List Span) (w : Want) (i j : Nat) : Bst := (obs2 T.length i j).foldl (bstStep B T w) bst0
/-- What the specification has found behind so many pairs of blanks. -/
def preL (n m a b : Nat) : List Ob := (List.range a).flatMap (obs1 n m) ++ (List.range b).flatMap fun j => if a = j then [] else obs2 m a j
def bstG (B : List Blank) (T : List Span) (w : Want) (a b : Nat) : Bst := (preL B.length T.length a b).foldl (bstStep B T w) bst0
theorem bstG_next (B : List Blank) (T : List Span) (w : Want) (a : Nat) : bstG B T w (a + 1) 0 = bstG B T w a B.length := by
  unfold bstG preL obs1; rw [List.range_succ, List.flatMap_append]; simp
theorem bstG_same (B : List Blank) (T : List Span) (w : Want) (a : Nat) : bstG B T w a (a + 1) = bstG B T w a a := by
  unfold bstG preL; rw [List.range_succ, List.flatMap_append]; simp
theorem bstG_succ (B : List Blank) (T : List Span) (w : Want) {a b : Nat} (h : a ≠ b) : bstG B T w a (b + 1) = cmb (bstG B T w a b) (bstA B T w a b) := by
  unfold bstG preL
  rw [List.range_succ, List.flatMap_append, ← List.append_assoc, List.foldl_append, fold_cmb]
  simp [h, bstA]
theorem bstG_all (B : List Blank) (T : List Span) (w : Want) : bstG B T w B.length 0 = (obsA B.length T.length).foldl (bstStep B T w) bst0 := by
  unfold bstG preL obsA; simp
end Go.Oc
namespace Go.Proofs.Ytcjcnmpecmbdeaa
open Go.RowKit Go.Pm Go.Oc
set_option maxRecDepth 100000
set_option linter.unusedVariables false
set_option maxHeartbeats 4000000

theorem r4All_c {T : List Span} (sB : TV) (fT : Bool) (hT : 1 ≤ T.length ∧ T.length ≤ 6) (i j : Nat) : PCalls Try.prog 95 [.agg [sB, .sl (T.flatMap Span.cs) T.length fT], .int .i64 i, .int .i64 j] (.sl ((obs2 T.length i j).flatMap Ob.cs) (T.length * T.length * T.length) false) := by
  obtain ⟨m, hm⟩ : ∃ m, T.length = m := ⟨_, rfl⟩
  rw [hm] at hT ⊢
  have h36 : m * m ≤ 36 := Nat.mul_le_mul hT.2 hT.2
  have h216 : m * m * m ≤ 216 := by have := Nat.mul_le_mul h36 hT.2; omega
  refine pcalls_by Try.mixes noSpec_ok (fn := Try.f95) Try.func95 rfl (by kernel_rfl) (by show 3 ≤ _; decide) ?_
  simp (decide := true) (maxSteps := 4000000) only [go_sem, Nat.reduceAdd, Nat.reduceSub, Nat.reduceMul, Nat.reduceDiv, Nat.reduceMod, Nat.reduceLT, Nat.reduceLeDiff, Nat.reduceEqDiff, Nat.reduceBEq, Nat.reduceBNe, Nat.reduceGT, Int.reduceAdd, Int.reduceSub, Int.reduceMul, Int.reduceNeg, Int.reduceLT, Int.reduceLE, Int.reduceEq, Int.reduceNe, Int.reduceBEq, Int.reduceBNe, Int.reduceToNat, Int.reduceGT, Int.reduceGE, ↓reduceIte, decide_true, decide_false, eq_self, Nat.mul_one, Nat.zero_mul, Nat.one_mul, Int.le_refl, Nat.le_refl, Int.cast_ofNat_Int, Try.f95, hm]
  have row : ∀ t : Nat, t ≤ m * m * m → (((obs2 m i j).take t).flatMap Ob.cs).length = t * 5 := by
    intro t ht
    rw [flat_len Ob.cs (n := 5) (fun _ => rfl), List.length_take, obs2_len]
    omega
  refine pwpC_loopU (A := { a : Nat // a ≤ m }) [1, 2, 8] (fun a => [(9, .t (.int .i64 a.1)), (7, .own (((obs2 m i j).take (a.1 * m * m)).flatMap Ob.cs) (a.1 * m * m) 1)]) (fun a => [(1, .tok (a.1 * m * m) 28)]) (fun a => m - a.1) ⟨0, by omega⟩ (by decide) (fun _ => by rfl) ?_ fun Q1 hQ1 ⟨a, ha⟩ I1 hI1 => ?_
  · simp (decide := true) (maxSteps := 4000000) only [go_sem, Nat.reduceAdd, Nat.reduceSub, Nat.reduceMul, Nat.reduceDiv, Nat.reduceMod, Nat.reduceLT, Nat.reduceLeDiff, Nat.reduceEqDiff, Nat.reduceBEq, Nat.reduceBNe, Nat.reduceGT, Int.reduceAdd, Int.reduceSub, Int.reduceMul, Int.reduceNeg, Int.reduceLT, Int.reduceLE, Int.reduceEq, Int.reduceNe, Int.reduceBEq, Int.reduceBNe, Int.reduceToNat, Int.reduceGT, Int.reduceGE, ↓reduceIte, decide_true, decide_false, eq_self, Nat.mul_one, Nat.zero_mul, Nat.one_mul, Int.le_refl, Nat.le_refl, Int.cast_ofNat_Int, Nat.zero_mul, List.take_zero, List.flatMap_nil]
    first | done | exact ⟨rfl, rfl⟩ | rfl
  · by_cases hlt : (a : Int) < m
    · have ha1 : IntKind.i64.wrap (a + 1) = ((a + 1 : Nat) : Int) := by rw [wrap_in (by omega) (by omega)]; omega
      have q1 : (a + 1) * m ≤ m * m := Nat.mul_le_mul_right m (by omega)
      have q2 : (a + 1) * m * m ≤ m * m * m := Nat.mul_le_mul_right m q1
      have q3 : (a + 1) * m = a * m + m := Nat.succ_mul a m
      simp (decide := true) (maxSteps := 4000000) only [go_sem, Nat.reduceAdd, Nat.reduceSub, Nat.reduceMul, Nat.reduceDiv, Nat.reduceMod, Nat.reduceLT, Nat.reduceLeDiff, Nat.reduceEqDiff, Nat.reduceBEq, Nat.reduceBNe, Nat.reduceGT, Int.reduceAdd, Int.reduceSub, Int.reduceMul, Int.reduceNeg, Int.reduceLT, Int.reduceLE, Int.reduceEq, Int.reduceNe, Int.reduceBEq, Int.reduceBNe, Int.reduceToNat, Int.reduceGT, Int.reduceGE, ↓reduceIte, decide_true, decide_false, eq_self, Nat.mul_one, Nat.zero_mul, Nat.one_mul, Int.le_refl, Nat.le_refl, Int.cast_ofNat_Int, hlt]
      refine pwpC_loopU (A := { b : Nat // b ≤ m }) [1, 2, 8, 9] (fun b => [(10, .t (.int .i64 b.1)), (7, .own (((obs2 m i j).take ((a * m + b.1) * m)).flatMap Ob.cs) ((a * m + b.1) * m) 1)]) (fun b => [(1, .tok ((a * m + b.1) * m) 28)]) (fun b => m - b.1) ⟨0, by omega⟩ (by decide) (fun _ => by rfl) ?_ fun Q2 hQ2 ⟨b, hb⟩ I2 hI2 => ?_
      · simp (decide := true) (maxSteps := 4000000) only [go_sem, Nat.reduceAdd, Nat.reduceSub, Nat.reduceMul, Nat.reduceDiv, Nat.reduceMod, Nat.reduceLT, Nat.reduceLeDiff, Nat.reduceEqDiff, Nat.reduceBEq, Nat.reduceBNe, Nat.reduceGT, Int.reduceAdd, Int.reduceSub, Int.reduceMul, Int.reduceNeg, Int.reduceLT, Int.reduceLE, Int.reduceEq, Int.reduceNe, Int.reduceBEq, Int.reduceBNe, Int.reduceToNat, Int.reduceGT, Int.reduceGE, ↓reduceIte, decide_true, decide_false, eq_self, Nat.mul_one, Nat.zero_mul, Nat.one_mul, Int.le_refl, Nat.le_refl, Int.cast_ofNat_Int, Nat.add_zero]
      · by_cases hlt2 : (b : Int) < m
        · have hb1 : IntKind.i64.wrap (b + 1) = ((b + 1 : Nat) : Int) := by rw [wrap_in (by omega) (by omega)]; omega
          have p1 : (a * m + (b + 1)) * m ≤ (a + 1) * m * m := Nat.mul_le_mul_right m (by omega)
          have p2 : (a * m + (b + 1)) * m = (a * m + b) * m + m := by rw [← Nat.add_assoc]; exact Nat.succ_mul (a * m + b) m
          simp (decide := true) (maxSteps := 4000000) only [go_sem, Nat.reduceAdd, Nat.reduceSub, Nat.reduceMul, Nat.reduceDiv, Nat.reduceMod, Nat.reduceLT, Nat.reduceLeDiff, Nat.reduceEqDiff, Nat.reduceBEq, Nat.reduceBNe, Nat.reduceGT, Int.reduceAdd, Int.reduceSub, Int.reduceMul, Int.reduceNeg, Int.reduceLT, Int.reduceLE, Int.reduceEq, Int.reduceNe, Int.reduceBEq, Int.reduceBNe, Int.reduceToNat, Int.reduceGT, Int.reduceGE, ↓reduceIte, decide_true, decide_false, eq_self, Nat.mul_one, Nat.zero_mul, Nat.one_mul, Int.le_refl, Nat.le_refl, Int.cast_ofNat_Int, hlt2]
          refine pwpC_loopU (A := { c : Nat // c ≤ m }) [1, 2, 8, 9, 10] (fun c => [(11, .t (.int .i64 c.1)), (7, .own (((obs2 m i j).take ((a * m + b) * m + c.1)).flatMap Ob.cs) ((a * m + b) * m + c.1) 1)]) (fun c => [(1, .tok ((a * m + b) * m + c.1) 28)]) (fun c => m - c.1) ⟨0, by omega⟩ (by decide) (fun _ => by rfl) ?_ fun Q3 hQ3 ⟨c, hc⟩ I3 hI3 => ?_
          · simp (decide := true) (maxSteps := 4000000) only [go_sem, Nat.reduceAdd, Nat.reduceSub, Nat.reduceMul, Nat.reduceDiv, Nat.reduceMod, Nat.reduceLT, Nat.reduceLeDiff, Nat.reduceEqDiff, Nat.reduceBEq, Nat.reduceBNe, Nat.reduceGT, Int.reduceAdd, Int.reduceSub, Int.reduceMul, Int.reduceNeg, Int.reduceLT, Int.reduceLE, Int.reduceEq, Int.reduceNe, Int.reduceBEq, Int.reduceBNe, Int.reduceToNat, Int.reduceGT, Int.reduceGE, ↓reduceIte, decide_true, decide_false, eq_self, Nat.mul_one, Nat.zero_mul, Nat.one_mul, Int.le_refl, Nat.le_refl, Int.cast_ofNat_Int, Nat.add_zero]
          · by_cases hlt3 : (c : Int) < m
            · have hc1 : IntKind.i64.wrap (c + 1) = ((c + 1 : Nat) : Int) := by rw [wrap_in (by omega) (by omega)]; omega
              have hat := obs2_at (m := m) (i := i) (j := j) (a := a) (b := b) (c := c) (by omega) (by omega) (by omega)
              have hrow := row ((a * m + b) * m + c) (by omega)
              have hroom : ((a * m + b) * m + c + 1) * 40 ≤ 140737488355328 := by omega
              have hsn := take_snoc hat
              rw [Nat.add_assoc] at hsn
              simp (decide := true) (maxSteps := 4000000) only [go_sem, Nat.reduceAdd, Nat.reduceSub, Nat.reduceMul, Nat.reduceDiv, Nat.reduceMod, Nat.reduceLT, Nat.reduceLeDiff, Nat.reduceEqDiff, Nat.reduceBEq, Nat.reduceBNe, Nat.reduceGT, Int.reduceAdd, Int.reduceSub, Int.reduceMul, Int.reduceNeg, Int.reduceLT, Int.reduceLE, Int.reduceEq, Int.reduceNe, Int.reduceBEq, Int.reduceBNe, Int.reduceToNat, Int.reduceGT, Int.reduceGE, ↓reduceIte, decide_true, decide_false, eq_self, Nat.mul_one, Nat.zero_mul, Nat.one_mul, Int.le_refl, Nat.le_refl, Int.cast_ofNat_Int, hlt3, hrow, hroom]
              refine hI3 _ ⟨c + 1, by omega⟩ (by simp only; omega) ?_
              simp (decide := true) (maxSteps := 4000000) only [go_sem, Nat.reduceAdd, Nat.reduceSub, Nat.reduceMul, Nat.reduceDiv, Nat.reduceMod, Nat.reduceLT, Nat.reduceLeDiff, Nat.reduceEqDiff, Nat.reduceBEq, Nat.reduceBNe, Nat.reduceGT, Int.reduceAdd, Int.reduceSub, Int.reduceMul, Int.reduceNeg, Int.reduceLT, Int.reduceLE, Int.reduceEq, Int.reduceNe, Int.reduceBEq, Int.reduceBNe, Int.reduceToNat, Int.reduceGT, Int.reduceGE, ↓reduceIte, decide_true, decide_false, eq_self, Nat.mul_one, Nat.zero_mul, Nat.one_mul, Int.le_refl, Nat.le_refl, Int.cast_ofNat_Int, hc1, hsn, List.flatMap_append, Ob.cs, Nat.add_assoc]
            · have hce : c = m := by omega
              subst hce
              simp (decide := true) (maxSteps := 4000000) only [go_sem, Nat.reduceAdd, Nat.reduceSub, Nat.reduceMul, Nat.reduceDiv, Nat.reduceMod, Nat.reduceLT, Nat.reduceLeDiff, Nat.reduceEqDiff, Nat.reduceBEq, Nat.reduceBNe, Nat.reduceGT, Int.reduceAdd, Int.reduceSub, Int.reduceMul, Int.reduceNeg, Int.reduceLT, Int.reduceLE, Int.reduceEq, Int.reduceNe, Int.reduceBEq, Int.reduceBNe, Int.reduceToNat, Int.reduceGT, Int.reduceGE, ↓reduceIte, decide_true, decide_false, eq_self, Nat.mul_one, Nat.zero_mul, Nat.one_mul, Int.le_refl, Nat.le_refl, Int.cast_ofNat_Int, hlt3]
              refine hQ3 _ _ ?_
              simp (decide := true) (maxSteps := 4000000) only [go_sem, Nat.reduceAdd, Nat.reduceSub, Nat.reduceMul, Nat.reduceDiv, Nat.reduceMod, Nat.reduceLT, Nat.reduceLeDiff, Nat.reduceEqDiff, Nat.reduceBEq, Nat.reduceBNe, Nat.reduceGT, Int.reduceAdd, Int.reduceSub, Int.reduceMul, Int.reduceNeg, Int.reduceLT, Int.reduceLE, Int.reduceEq, Int.reduceNe, Int.reduceBEq, Int.reduceBNe, Int.reduceToNat, Int.reduceGT, Int.reduceGE, ↓reduceIte, decide_true, decide_false, eq_self, Nat.mul_one, Nat.zero_mul, Nat.one_mul, Int.le_refl, Nat.le_refl, Int.cast_ofNat_Int]
              refine hI2 _ ⟨b + 1, by omega⟩ (by simp only; omega) ?_
              simp (decide := true) (maxSteps := 4000000) only [go_sem, Nat.reduceAdd, Nat.reduceSub, Nat.reduceMul, Nat.reduceDiv, Nat.reduceMod, Nat.reduceLT, Nat.reduceLeDiff, Nat.reduceEqDiff, Nat.reduceBEq, Nat.reduceBNe, Nat.reduceGT, Int.reduceAdd, Int.reduceSub, Int.reduceMul, Int.reduceNeg, Int.reduceLT, Int.reduceLE, Int.reduceEq, Int.reduceNe, Int.reduceBEq, Int.reduceBNe, Int.reduceToNat, Int.reduceGT, Int.reduceGE, ↓reduceIte, decide_true, decide_false, eq_self, Nat.mul_one, Nat.zero_mul, Nat.one_mul, Int.le_refl, Nat.le_refl, Int.cast_ofNat_Int, hb1, p2]
        · have hbe : b = m := by omega
          subst hbe
          simp (decide := true) (maxSteps := 4000000) only [go_sem, Nat.reduceAdd, Nat.reduceSub, Nat.reduceMul, Nat.reduceDiv, Nat.reduceMod, Nat.reduceLT, Nat.reduceLeDiff, Nat.reduceEqDiff, Nat.reduceBEq, Nat.reduceBNe, Nat.reduceGT, Int.reduceAdd, Int.reduceSub, Int.reduceMul, Int.reduceNeg, Int.reduceLT, Int.reduceLE, Int.reduceEq, Int.reduceNe, Int.reduceBEq, Int.reduceBNe, Int.reduceToNat, Int.reduceGT, Int.reduceGE, ↓reduceIte, decide_true, decide_false, eq_self, Nat.mul_one, Nat.zero_mul, Nat.one_mul, Int.le_refl, Nat.le_refl, Int.cast_ofNat_Int, hlt2]
          refine hQ2 _ _ ?_
          simp (decide := true) (maxSteps := 4000000) only [go_sem, Nat.reduceAdd, Nat.reduceSub, Nat.reduceMul, Nat.reduceDiv, Nat.reduceMod, Nat.reduceLT, Nat.reduceLeDiff, Nat.reduceEqDiff, Nat.reduceBEq, Nat.reduceBNe, Nat.reduceGT, Int.reduceAdd, Int.reduceSub, Int.reduceMul, Int.reduceNeg, Int.reduceLT, Int.reduceLE, Int.reduceEq, Int.reduceNe, Int.reduceBEq, Int.reduceBNe, Int.reduceToNat, Int.reduceGT, Int.reduceGE, ↓reduceIte, decide_true, decide_false, eq_self, Nat.mul_one, Nat.zero_mul, Nat.one_mul, Int.le_refl, Nat.le_refl, Int.cast_ofNat_Int]
          refine hI1 _ ⟨a + 1, by omega⟩ (by simp only; omega) ?_
          simp (decide := true) (maxSteps := 4000000) only [go_sem, Nat.reduceAdd, Nat.reduceSub, Nat.reduceMul, Nat.reduceDiv, Nat.reduceMod, Nat.reduceLT, Nat.reduceLeDiff, Nat.reduceEqDiff, Nat.reduceBEq, Nat.reduceBNe, Nat.reduceGT, Int.reduceAdd, Int.reduceSub, Int.reduceMul, Int.reduceNeg, Int.reduceLT, Int.reduceLE, Int.reduceEq, Int.reduceNe, Int.reduceBEq, Int.reduceBNe, Int.reduceToNat, Int.reduceGT, Int.reduceGE, ↓reduceIte, decide_true, decide_false, eq_self, Nat.mul_one, Nat.zero_mul, Nat.one_mul, Int.le_refl, Nat.le_refl, Int.cast_ofNat_Int, ha1, q3]
    · have hae : a = m := by omega
      subst hae
      have hn : ¬ a * a * a = 0 := by
        have := Nat.mul_pos (Nat.mul_pos (show 0 < a by omega) (show 0 < a by omega)) (show 0 < a by omega)
        omega
      have hall : (obs2 a i j).take (a * a * a) = obs2 a i j := List.take_of_length_le (by rw [obs2_len]; omega)
      simp (decide := true) (maxSteps := 4000000) only [go_sem, Nat.reduceAdd, Nat.reduceSub, Nat.reduceMul, Nat.reduceDiv, Nat.reduceMod, Nat.reduceLT, Nat.reduceLeDiff, Nat.reduceEqDiff, Nat.reduceBEq, Nat.reduceBNe, Nat.reduceGT, Int.reduceAdd, Int.reduceSub, Int.reduceMul, Int.reduceNeg, Int.reduceLT, Int.reduceLE, Int.reduceEq, Int.reduceNe, Int.reduceBEq, Int.reduceBNe, Int.reduceToNat, Int.reduceGT, Int.reduceGE, ↓reduceIte, decide_true, decide_false, eq_self, Nat.mul_one, Nat.zero_mul, Nat.one_mul, Int.le_refl, Nat.le_refl, Int.cast_ofNat_Int, hlt]
      refine hQ1 _ _ ?_
      simp (decide := true) (maxSteps := 4000000) only [go_sem, Nat.reduceAdd, Nat.reduceSub, Nat.reduceMul, Nat.reduceDiv, Nat.reduceMod, Nat.reduceLT, Nat.reduceLeDiff, Nat.reduceEqDiff, Nat.reduceBEq, Nat.reduceBNe, Nat.reduceGT, Int.reduceAdd, Int.reduceSub, Int.reduceMul, Int.reduceNeg, Int.reduceLT, Int.reduceLE, Int.reduceEq, Int.reduceNe, Int.reduceBEq, Int.reduceBNe, Int.reduceToNat, Int.reduceGT, Int.reduceGE, ↓reduceIte, decide_true, decide_false, eq_self, Nat.mul_one, Nat.zero_mul, Nat.one_mul, Int.le_refl, Nat.le_refl, Int.cast_ofNat_Int, hn, hall]
noncomputable def rAll : List TV → Option TV
  | [.agg [sB, .sl cT n fT], .int .i64 i, .int .i64 j] => match unSpans cT with
    | some T => if n = T.length ∧ (1 ≤ T.length ∧ T.length ≤ 6) ∧ 0 ≤ i ∧ 0 ≤ j then some (.sl ((obs2 T.length i.toNat j.toNat).flatMap Ob.cs) (T.length * T.length * T.length) false) else none
    | none => none
  | _ => none
theorem rAll_ok : ∀ xs r, rAll xs = some r → PCalls Try.prog 95 xs r := by
  intro xs r h
  unfold rAll at h
  split at h
  · rename_i sB cT n fT i j
    split at h
    · rename_i T hT
      split at h
      · rename_i hc; cases h
        obtain ⟨rfl, h1, h2, h3⟩ := hc
        rw [unSpans_some hT]
        have := r4All_c (T := T) sB fT h1 i.toNat j.toNat
        rw [Int.toNat_of_nonneg h2, Int.toNat_of_nonneg h3] at this
        exact this
      · cases h
    · cases h
  · cases h
attribute [go_sem] rAll
noncomputable def spL1 : Pm.Spec := spY1.one 95 rAll
@[go_sem] theorem spL1_p (f : FuncId) (xs : List TV) : spL1.p f xs = Pm.Spec.p (spY1.one 95 rAll) f xs := rfl
@[go_sem] theorem spL1_h (f : FuncId) (ps : List PV) (hl : List PO) : spL1.h f ps hl = Pm.Spec.h (spY1.one 95 rAll) f ps hl := rfl
@[go_sem] theorem spL1_fz (f : FuncId) : spL1.fz f = Pm.Spec.fz (spY1.one 95 rAll) f := rfl
@[go_sem] theorem spL1_fr (f : FuncId) : spL1.fr f = Pm.Spec.fr (spY1.one 95 rAll) f := rfl
@[go_sem] theorem spL1_mu (t : TypeId) : spL1.mu t = Pm.Spec.mu (spY1.one 95 rAll) t := rfl
theorem spL1_ok : SpecOk Try.prog spL1 := Spec.one_ok rAll_ok spY1_ok
theorem r4BestV_c {B : List Blank} {T : List Span} (fB fT : Bool) (hs : stockOk B T = true) (w : Want) (i j : Nat) (hi : i < B.length) (hj : j < B.length) (hij : i ≠ j) : PCalls Try.prog 71 [.agg [.sl (B.flatMap Blank.cs) B.length fB, .sl (T.flatMap Span.cs) T.length fT], w.t, .int .i64 i, .int .i64 j]
    (.tup [(bstA B T w i j).o.t, .int .i64 (bstA B T w i j).n, .bool (bstA B T w i j).is]) := by
  have hs' := stockOk_iff.1 hs
  obtain ⟨N, hN⟩ : ∃ N, T.length * T.length * T.length = N := ⟨_, rfl⟩
  have hNl : (obs2 T.length i j).length = N := by rw [obs2_len, hN]
  have h36 : T.length * T.length ≤ 36 := Nat.mul_le_mul hs'.2.1.2 hs'.2.1.2
  have h216 : T.length * T.length * T.length ≤ 216 := by have := Nat.mul_le_mul h36 hs'.2.1.2; omega
  have hres : bstA B T w i j = bst2 B T w i j N := by unfold bst2; rw [← hNl, List.take_length]; rfl
  have c1 : (1 ≤ T.length ∧ T.length ≤ 6) ∧ 0 ≤ (i : Int) ∧ 0 ≤ (j : Int) := by omega
  rw [hres]
  refine pcalls_by Try.mixes spL1_ok (fn := Try.f71) Try.func71 rfl (by kernel_rfl) (by show 4 ≤ _; decide) ?_
  simp (decide := true) (maxSteps := 4000000) only [go_sem, Nat.reduceAdd, Nat.reduceSub, Nat.reduceMul, Nat.reduceDiv, Nat.reduceMod, Nat.reduceLT, Nat.reduceLeDiff, Nat.reduceEqDiff, Nat.reduceBEq, Nat.reduceBNe, Nat.reduceGT, Int.reduceAdd, Int.reduceSub, Int.reduceMul, Int.reduceNeg, Int.reduceLT, Int.reduceLE, Int.reduceEq, Int.reduceNe, Int.reduceBEq, Int.reduceBNe, Int.reduceToNat, Int.reduceGT, Int.reduceGE, ↓reduceIte, decide_true, decide_false, eq_self, Nat.mul_one, Nat.zero_mul, Nat.one_mul, Int.le_refl, Nat.le_refl, Int.cast_ofNat_Int, Try.f71, Want.t, c1, Int.toNat_natCast, hN]
  refine pwpC_loopU (A := { k : Nat // k ≤ N }) [4, 5, 8, 11, 14] (fun k => [(15, .t (.int .i64 k.1)), (12, .t (.int .i64 (bst2 B T w i j k.1).n)), (13, .t (.bool (bst2 B T w i j k.1).is))]) (fun k => [(3, .box ((bst2 B T w i j k.1).o.cs.map .t))]) (fun k => N - k.1) ⟨0, by omega⟩ (by decide) (fun _ => by rfl) ?_ fun Q1 hQ1 ⟨k, hk⟩ I1 hI1 => ?_
  · simp (decide := true) (maxSteps := 4000000) only [go_sem, Nat.reduceAdd, Nat.reduceSub, Nat.reduceMul, Nat.reduceDiv, Nat.reduceMod, Nat.reduceLT, Nat.reduceLeDiff, Nat.reduceEqDiff, Nat.reduceBEq, Nat.reduceBNe, Nat.reduceGT, Int.reduceAdd, Int.reduceSub, Int.reduceMul, Int.reduceNeg, Int.reduceLT, Int.reduceLE, Int.reduceEq, Int.reduceNe, Int.reduceBEq, Int.reduceBNe, Int.reduceToNat, Int.reduceGT, Int.reduceGE, ↓reduceIte, decide_true, decide_false, eq_self, Nat.mul_one, Nat.zero_mul, Nat.one_mul, Int.le_refl, Nat.le_refl, Int.cast_ofNat_Int, bst2, List.take_zero, List.foldl_nil, bst0, Ob.cs]
    first | done | rfl
  · by_cases hlt : (k : Int) < N
    · obtain ⟨o, ho⟩ := get_lt (l := obs2 T.length i j) (k := k) (by omega)
      have hd := flat_at Ob.cs (n := 5) (fun _ => rfl) ho
      have hc1 : IntKind.i64.wrap (k + 1) = ((k + 1 : Nat) : Int) := by rw [wrap_in (by omega) (by omega)]; omega
      have hst := bst2_succ (B := B) w ho
      have hop := obs2_price B (List.mem_of_getElem? ho)
      have hob : obOk B.length T.length o = true := by
        have hmem := List.mem_of_getElem? ho
        refine obs_mem (by omega) (n := B.length) ?_
        unfold obsA obs1
        refine List.mem_flatMap.2 ⟨i, List.mem_range.2 hi, List.mem_flatMap.2 ⟨j, List.mem_range.2 hj, ?_⟩⟩
        rw [if_neg hij]; exact hmem
      have hpr := fold_price B T w ((blankAt B (i : Int)).pr + (blankAt B (j : Int)).pr) ((obs2 T.length i j).take k) bst0 (fun o ho => obs2_price B (List.mem_of_mem_take ho)) (fun h => by cases h)
      change (bst2 B T w i j k).is = true → (bst2 B T w i j k).p = _ at hpr
      unfold bstStep at hst
      rw [hop] at hst
      obtain ⟨⟨Xo, Xn, Xp, Xi⟩, hX⟩ : ∃ X, bst2 B T w i j k = X := ⟨_, rfl⟩
      rw [hX] at hst hpr
      obtain ⟨n, hn⟩ : ∃ n, worstS (spansP B T o).c = n := ⟨_, rfl⟩
      rw [hn] at hst
      cases hg : goodB (spansP B T o) w with
      | false =>
        rw [hg] at hst
        simp only [Bool.false_eq_true, if_false] at hst
        cases Xi <;> simp (decide := true) (maxSteps := 4000000) only [go_sem, Nat.reduceAdd, Nat.reduceSub, Nat.reduceMul, Nat.reduceDiv, Nat.reduceMod, Nat.reduceLT, Nat.reduceLeDiff, Nat.reduceEqDiff, Nat.reduceBEq, Nat.reduceBNe, Nat.reduceGT, Int.reduceAdd, Int.reduceSub, Int.reduceMul, Int.reduceNeg, Int.reduceLT, Int.reduceLE, Int.reduceEq, Int.reduceNe, Int.reduceBEq, Int.reduceBNe, Int.reduceToNat, Int.reduceGT, Int.reduceGE, ↓reduceIte, decide_true, decide_false, eq_self, Nat.mul_one, Nat.zero_mul, Nat.one_mul, Int.le_refl, Nat.le_refl, Int.cast_ofNat_Int, hX, hlt, hd, Ob.cs, Ob.t, Want.t, hs, hob, hg, hn, Int.toNat_natCast]
        all_goals refine hI1 _ ⟨k + 1, by omega⟩ (by simp only; omega) ?_
        all_goals simp (decide := true) (maxSteps := 4000000) only [go_sem, Nat.reduceAdd, Nat.reduceSub, Nat.reduceMul, Nat.reduceDiv, Nat.reduceMod, Nat.reduceLT, Nat.reduceLeDiff, Nat.reduceEqDiff, Nat.reduceBEq, Nat.reduceBNe, Nat.reduceGT, Int.reduceAdd, Int.reduceSub, Int.reduceMul, Int.reduceNeg, Int.reduceLT, Int.reduceLE, Int.reduceEq, Int.reduceNe, Int.reduceBEq, Int.reduceBNe, Int.reduceToNat, Int.reduceGT, Int.reduceGE, ↓reduceIte, decide_true, decide_false, eq_self, Nat.mul_one, Nat.zero_mul, Nat.one_mul, Int.le_refl, Nat.le_refl, Int.cast_ofNat_Int, hc1, hst, Ob.cs]
      | true =>
        rw [hg] at hst
        simp only [if_true] at hst
        cases Xi with
        | false =>
          rw [if_pos (.inl rfl)] at hst
          simp (decide := true) (maxSteps := 4000000) only [go_sem, Nat.reduceAdd, Nat.reduceSub, Nat.reduceMul, Nat.reduceDiv, Nat.reduceMod, Nat.reduceLT, Nat.reduceLeDiff, Nat.reduceEqDiff, Nat.reduceBEq, Nat.reduceBNe, Nat.reduceGT, Int.reduceAdd, Int.reduceSub, Int.reduceMul, Int.reduceNeg, Int.reduceLT, Int.reduceLE, Int.reduceEq, Int.reduceNe, Int.reduceBEq, Int.reduceBNe, Int.reduceToNat, Int.reduceGT, Int.reduceGE, ↓reduceIte, decide_true, decide_false, eq_self, Nat.mul_one, Nat.zero_mul, Nat.one_mul, Int.le_refl, Nat.le_refl, Int.cast_ofNat_Int, hX, hlt, hd, Ob.cs, Ob.t, Want.t, hs, hob, hg, hn, Int.toNat_natCast]
          refine hI1 _ ⟨k + 1, by omega⟩ (by simp only; omega) ?_
          simp (decide := true) (maxSteps := 4000000) only [go_sem, Nat.reduceAdd, Nat.reduceSub, Nat.reduceMul, Nat.reduceDiv, Nat.reduceMod, Nat.reduceLT, Nat.reduceLeDiff, Nat.reduceEqDiff, Nat.reduceBEq, Nat.reduceBNe, Nat.reduceGT, Int.reduceAdd, Int.reduceSub, Int.reduceMul, Int.reduceNeg, Int.reduceLT, Int.reduceLE, Int.reduceEq, Int.reduceNe, Int.reduceBEq, Int.reduceBNe, Int.reduceToNat, Int.reduceGT, Int.reduceGE, ↓reduceIte, decide_true, decide_false, eq_self, Nat.mul_one, Nat.zero_mul, Nat.one_mul, Int.le_refl, Nat.le_refl, Int.cast_ofNat_Int, hc1, hst, Ob.cs]
        | true =>
          have hpr := hpr rfl
          simp only at hpr
          by_cases h1 : n < Xn
          · rw [if_pos (.inr (.inl h1))] at hst
            simp (decide := true) (maxSteps := 4000000) only [go_sem, Nat.reduceAdd, Nat.reduceSub, Nat.reduceMul, Nat.reduceDiv, Nat.reduceMod, Nat.reduceLT, Nat.reduceLeDiff, Nat.reduceEqDiff, Nat.reduceBEq, Nat.reduceBNe, Nat.reduceGT, Int.reduceAdd, Int.reduceSub, Int.reduceMul, Int.reduceNeg, Int.reduceLT, Int.reduceLE, Int.reduceEq, Int.reduceNe, Int.reduceBEq, Int.reduceBNe, Int.reduceToNat, Int.reduceGT, Int.reduceGE, ↓reduceIte, decide_true, decide_false, eq_self, Nat.mul_one, Nat.zero_mul, Nat.one_mul, Int.le_refl, Nat.le_refl, Int.cast_ofNat_Int, hX, hlt, hd, Ob.cs, Ob.t, Want.t, hs, hob, hg, hn, h1, Int.toNat_natCast]
            refine hI1 _ ⟨k + 1, by omega⟩ (by simp only; omega) ?_
            simp (decide := true) (maxSteps := 4000000) only [go_sem, Nat.reduceAdd, Nat.reduceSub, Nat.reduceMul, Nat.reduceDiv, Nat.reduceMod, Nat.reduceLT, Nat.reduceLeDiff, Nat.reduceEqDiff, Nat.reduceBEq, Nat.reduceBNe, Nat.reduceGT, Int.reduceAdd, Int.reduceSub, Int.reduceMul, Int.reduceNeg, Int.reduceLT, Int.reduceLE, Int.reduceEq, Int.reduceNe, Int.reduceBEq, Int.reduceBNe, Int.reduceToNat, Int.reduceGT, Int.reduceGE, ↓reduceIte, decide_true, decide_false, eq_self, Nat.mul_one, Nat.zero_mul, Nat.one_mul, Int.le_refl, Nat.le_refl, Int.cast_ofNat_Int, hc1, hst, Ob.cs]
          · rw [if_neg (by rintro (h | h | h); cases h; exact h1 h; omega)] at hst
            simp (decide := true) (maxSteps := 4000000) only [go_sem, Nat.reduceAdd, Nat.reduceSub, Nat.reduceMul, Nat.reduceDiv, Nat.reduceMod, Nat.reduceLT, Nat.reduceLeDiff, Nat.reduceEqDiff, Nat.reduceBEq, Nat.reduceBNe, Nat.reduceGT, Int.reduceAdd, Int.reduceSub, Int.reduceMul, Int.reduceNeg, Int.reduceLT, Int.reduceLE, Int.reduceEq, Int.reduceNe, Int.reduceBEq, Int.reduceBNe, Int.reduceToNat, Int.reduceGT, Int.reduceGE, ↓reduceIte, decide_true, decide_false, eq_self, Nat.mul_one, Nat.zero_mul, Nat.one_mul, Int.le_refl, Nat.le_refl, Int.cast_ofNat_Int, hX, hlt, hd, Ob.cs, Ob.t, Want.t, hs, hob, hg, hn, h1, Int.toNat_natCast]
            refine hI1 _ ⟨k + 1, by omega⟩ (by simp only; omega) ?_
            simp (decide := true) (maxSteps := 4000000) only [go_sem, Nat.reduceAdd, Nat.reduceSub, Nat.reduceMul, Nat.reduceDiv, Nat.reduceMod, Nat.reduceLT, Nat.reduceLeDiff, Nat.reduceEqDiff, Nat.reduceBEq, Nat.reduceBNe, Nat.reduceGT, Int.reduceAdd, Int.reduceSub, Int.reduceMul, Int.reduceNeg, Int.reduceLT, Int.reduceLE, Int.reduceEq, Int.reduceNe, Int.reduceBEq, Int.reduceBNe, Int.reduceToNat, Int.reduceGT, Int.reduceGE, ↓reduceIte, decide_true, decide_false, eq_self, Nat.mul_one, Nat.zero_mul, Nat.one_mul, Int.le_refl, Nat.le_refl, Int.cast_ofNat_Int, hc1, hst, Ob.cs]
    · have hke : k = N := by omega
      subst hke
      simp (decide := true) (maxSteps := 4000000) only [go_sem, Nat.reduceAdd, Nat.reduceSub, Nat.reduceMul, Nat.reduceDiv, Nat.reduceMod, Nat.reduceLT, Nat.reduceLeDiff, Nat.reduceEqDiff, Nat.reduceBEq, Nat.reduceBNe, Nat.reduceGT, Int.reduceAdd, Int.reduceSub, Int.reduceMul, Int.reduceNeg, Int.reduceLT, Int.reduceLE, Int.reduceEq, Int.reduceNe, Int.reduceBEq, Int.reduceBNe, Int.reduceToNat, Int.reduceGT, Int.reduceGE, ↓reduceIte, decide_true, decide_false, eq_self, Nat.mul_one, Nat.zero_mul, Nat.one_mul, Int.le_refl, Nat.le_refl, Int.cast_ofNat_Int, hlt]
      refine hQ1 _ _ ?_
      simp (decide := true) (maxSteps := 4000000) only [go_sem, Nat.reduceAdd, Nat.reduceSub, Nat.reduceMul, Nat.reduceDiv, Nat.reduceMod, Nat.reduceLT, Nat.reduceLeDiff, Nat.reduceEqDiff, Nat.reduceBEq, Nat.reduceBNe, Nat.reduceGT, Int.reduceAdd, Int.reduceSub, Int.reduceMul, Int.reduceNeg, Int.reduceLT, Int.reduceLE, Int.reduceEq, Int.reduceNe, Int.reduceBEq, Int.reduceBNe, Int.reduceToNat, Int.reduceGT, Int.reduceGE, ↓reduceIte, decide_true, decide_false, eq_self, Nat.mul_one, Nat.zero_mul, Nat.one_mul, Int.le_refl, Nat.le_refl, Int.cast_ofNat_Int, Ob.cs, Ob.t]
noncomputable def rBestV : List TV → Option TV
  | [.agg [.sl cB n fB, .sl cT m fT], .agg [.int .i64 x, .int .i64 y, .int .i64 z], .int .i64 i, .int .i64 j] => match unBlanks cB, unSpans cT with
    | some B, some T => if n = B.length ∧ m = T.length ∧ stockOk B T = true ∧ (0 ≤ i ∧ i < B.length) ∧ (0 ≤ j ∧ j < B.length) ∧ i ≠ j then
        some (.tup [(bstA B T ⟨⟨x, y⟩, z⟩ i.toNat j.toNat).o.t, .int .i64 (bstA B T ⟨⟨x, y⟩, z⟩ i.toNat j.toNat).n, .bool (bstA B T ⟨⟨x, y⟩, z⟩ i.toNat j.toNat).is]) else none
    | _, _ => none
  | _ => none
theorem rBestV_ok : ∀ xs r, rBestV xs = some r → PCalls Try.prog 71 xs r := by
  intro xs r h
  unfold rBestV at h
  split at h
  · rename_i cB n fB cT m fT x y z i j
    split at h
    · rename_i B T hB hT
      split at h
      · rename_i hc; cases h
        obtain ⟨rfl, rfl, h1, h2, h3, h4⟩ := hc
        rw [unBlanks_some hB, unSpans_some hT]
        have := r4BestV_c (B := B) (T := T) fB fT h1 ⟨⟨x, y⟩, z⟩ i.toNat j.toNat (by omega) (by omega) (by omega)
        rw [Int.toNat_of_nonneg h2.1, Int.toNat_of_nonneg h3.1] at this
        exact this
      · cases h
    · cases h
  · cases h
attribute [go_sem] rBestV
noncomputable def spL2 : Pm.Spec := spL1.one 71 rBestV
@[go_sem] theorem spL2_p (f : FuncId) (xs : List TV) : spL2.p f xs = Pm.Spec.p (spL1.one 71 rBestV) f xs := rfl
@[go_sem] theorem spL2_h (f : FuncId) (ps : List PV) (hl : List PO) : spL2.h f ps hl = Pm.Spec.h (spL1.one 71 rBestV) f ps hl := rfl
@[go_sem] theorem spL2_fz (f : FuncId) : spL2.fz f = Pm.Spec.fz (spL1.one 71 rBestV) f := rfl
@[go_sem] theorem spL2_fr (f : FuncId) : spL2.fr f = Pm.Spec.fr (spL1.one 71 rBestV) f := rfl
@[go_sem] theorem spL2_mu (t : TypeId) : spL2.mu t = Pm.Spec.mu (spL1.one 71 rBestV) t := rfl
theorem spL2_ok : SpecOk Try.prog spL2 := Spec.one_ok rBestV_ok spL1_ok
theorem r4Best_c {B : List Blank} {T : List Span} {sB sT : TV} (hB : IsRow Blank.cs sB B) (hT : IsRow Span.cs sT T) (hlB : B.length ≤ 5864062014806) (hlT : T.length ≤ 9000000000000) (w : Want) : PCalls Try.prog 26 [.agg [sB, sT], w.t] (.tup [(bestP B T w).1.t, .int .i64 (bestP B T w).2.1, .int .i64 (bestP B T w).2.2]) := by
  have u1 : unBlanks [] = some [] := rfl
  have u2 : unSpans [] = some [] := rfl
  refine pcalls_by Try.mixes spL2_ok (fn := Try.f26) Try.func26 rfl (by kernel_rfl) (by show 2 ≤ _; decide) ?_
  unfold bestP
  cases hs : stockOk B T with
  | false => rcases hB with ⟨rfl, rfl⟩ | ⟨fB, rfl⟩ <;> rcases hT with ⟨rfl, rfl⟩ | ⟨fT, rfl⟩ <;> simp (decide := true) (maxSteps := 4000000) only [go_sem, Nat.reduceAdd, Nat.reduceSub, Nat.reduceMul, Nat.reduceDiv, Nat.reduceMod, Nat.reduceLT, Nat.reduceLeDiff, Nat.reduceEqDiff, Nat.reduceBEq, Nat.reduceBNe, Nat.reduceGT, Int.reduceAdd, Int.reduceSub, Int.reduceMul, Int.reduceNeg, Int.reduceLT, Int.reduceLE, Int.reduceEq, Int.reduceNe, Int.reduceBEq, Int.reduceBNe, Int.reduceToNat, Int.reduceGT, Int.reduceGE, ↓reduceIte, decide_true, decide_false, eq_self, Nat.mul_one, Nat.zero_mul, Nat.one_mul, Int.le_refl, Nat.le_refl, Int.cast_ofNat_Int, Try.f26, Want.t, u1, u2, hlB, hlT, hs, List.length_nil, bst0, Ob.t, Ob.cs]
  | true =>
    have hs' := stockOk_iff.1 hs
    obtain ⟨fB, rfl⟩ := hB.ne (by omega)
    obtain ⟨fT, rfl⟩ := hT.ne (by omega)
    cases hw : wantOk w with
    | false => simp (decide := true) (maxSteps := 4000000) only [go_sem, Nat.reduceAdd, Nat.reduceSub, Nat.reduceMul, Nat.reduceDiv, Nat.reduceMod, Nat.reduceLT, Nat.reduceLeDiff, Nat.reduceEqDiff, Nat.reduceBEq, Nat.reduceBNe, Nat.reduceGT, Int.reduceAdd, Int.reduceSub, Int.reduceMul, Int.reduceNeg, Int.reduceLT, Int.reduceLE, Int.reduceEq, Int.reduceNe, Int.reduceBEq, Int.reduceBNe, Int.reduceToNat, Int.reduceGT, Int.reduceGE, ↓reduceIte, decide_true, decide_false, eq_self, Nat.mul_one, Nat.zero_mul, Nat.one_mul, Int.le_refl, Nat.le_refl, Int.cast_ofNat_Int, Try.f26, Want.t, hlB, hlT, hs, hw, bst0, Ob.t, Ob.cs]
    | true =>
      rw [← bstG_all]
      simp (decide := true) (maxSteps := 4000000) only [go_sem, Nat.reduceAdd, Nat.reduceSub, Nat.reduceMul, Nat.reduceDiv, Nat.reduceMod, Nat.reduceLT, Nat.reduceLeDiff, Nat.reduceEqDiff, Nat.reduceBEq, Nat.reduceBNe, Nat.reduceGT, Int.reduceAdd, Int.reduceSub, Int.reduceMul, Int.reduceNeg, Int.reduceLT, Int.reduceLE, Int.reduceEq, Int.reduceNe, Int.reduceBEq, Int.reduceBNe, Int.reduceToNat, Int.reduceGT, Int.reduceGE, ↓reduceIte, decide_true, decide_false, eq_self, Nat.mul_one, Nat.zero_mul, Nat.one_mul, Int.le_refl, Nat.le_refl, Int.cast_ofNat_Int, Try.f26, Want.t, hlB, hlT, hs, hw]
      refine pwpC_loopU (A := { a : Nat // a ≤ B.length }) [2, 3, 4, 8] (fun a => [(12, .t (.int .i64 a.1)), (9, .t (.int .i64 (bstG B T w a.1 0).n)), (10, .t (.int .i64 (bstG B T w a.1 0).p)), (11, .t (.bool (bstG B T w a.1 0).is))]) (fun a => [(3, .box ((bstG B T w a.1 0).o.cs.map .t))]) (fun a => B.length - a.1) ⟨0, by omega⟩ (by decide) (fun _ => by rfl) ?_ fun Q1 hQ1 ⟨a, ha⟩ I1 hI1 => ?_
      · simp (decide := true) (maxSteps := 4000000) only [go_sem, Nat.reduceAdd, Nat.reduceSub, Nat.reduceMul, Nat.reduceDiv, Nat.reduceMod, Nat.reduceLT, Nat.reduceLeDiff, Nat.reduceEqDiff, Nat.reduceBEq, Nat.reduceBNe, Nat.reduceGT, Int.reduceAdd, Int.reduceSub, Int.reduceMul, Int.reduceNeg, Int.reduceLT, Int.reduceLE, Int.reduceEq, Int.reduceNe, Int.reduceBEq, Int.reduceBNe, Int.reduceToNat, Int.reduceGT, Int.reduceGE, ↓reduceIte, decide_true, decide_false, eq_self, Nat.mul_one, Nat.zero_mul, Nat.one_mul, Int.le_refl, Nat.le_refl, Int.cast_ofNat_Int, bstG, preL, List.range_zero, List.flatMap_nil, List.append_nil, List.foldl_nil, bst0, Ob.cs]
        first | done | exact ⟨rfl, rfl⟩ | rfl
      · by_cases hlt : (a : Int) < B.length
        · have ha1 : IntKind.i64.wrap (a + 1) = ((a + 1 : Nat) : Int) := by rw [wrap_in (by omega) (by omega)]; omega
          simp (decide := true) (maxSteps := 4000000) only [go_sem, Nat.reduceAdd, Nat.reduceSub, Nat.reduceMul, Nat.reduceDiv, Nat.reduceMod, Nat.reduceLT, Nat.reduceLeDiff, Nat.reduceEqDiff, Nat.reduceBEq, Nat.reduceBNe, Nat.reduceGT, Int.reduceAdd, Int.reduceSub, Int.reduceMul, Int.reduceNeg, Int.reduceLT, Int.reduceLE, Int.reduceEq, Int.reduceNe, Int.reduceBEq, Int.reduceBNe, Int.reduceToNat, Int.reduceGT, Int.reduceGE, ↓reduceIte, decide_true, decide_false, eq_self, Nat.mul_one, Nat.zero_mul, Nat.one_mul, Int.le_refl, Nat.le_refl, Int.cast_ofNat_Int, hlt]
          refine pwpC_loopU (A := { b : Nat // b ≤ B.length }) [2, 3, 4, 8, 12] (fun b => [(13, .t (.int .i64 b.1)), (9, .t (.int .i64 (bstG B T w a b.1).n)), (10, .t (.int .i64 (bstG B T w a b.1).p)), (11, .t (.bool (bstG B T w a b.1).is))]) (fun b => [(3, .box ((bstG B T w a b.1).o.cs.map .t))]) (fun b => B.length - b.1) ⟨0, by omega⟩ (by decide) (fun _ => by rfl) ?_ fun Q2 hQ2 ⟨b, hb⟩ I2 hI2 => ?_
          · simp (decide := true) (maxSteps := 4000000) only [go_sem, Nat.reduceAdd, Nat.reduceSub, Nat.reduceMul, Nat.reduceDiv, Nat.reduceMod, Nat.reduceLT, Nat.reduceLeDiff, Nat.reduceEqDiff, Nat.reduceBEq, Nat.reduceBNe, Nat.reduceGT, Int.reduceAdd, Int.reduceSub, Int.reduceMul, Int.reduceNeg, Int.reduceLT, Int.reduceLE, Int.reduceEq, Int.reduceNe, Int.reduceBEq, Int.reduceBNe, Int.reduceToNat, Int.reduceGT, Int.reduceGE, ↓reduceIte, decide_true, decide_false, eq_self, Nat.mul_one, Nat.zero_mul, Nat.one_mul, Int.le_refl, Nat.le_refl, Int.cast_ofNat_Int, Ob.cs]
          · by_cases hlt2 : (b : Int) < B.length
            · have hb1 : IntKind.i64.wrap (b + 1) = ((b + 1 : Nat) : Int) := by rw [wrap_in (by omega) (by omega)]; omega
              by_cases hab : a = b
              · have hab' : ((a : Int) == (b : Int)) = true := beq_int_t (by omega)
                have hsm := bstG_same B T w a
                subst hab
                simp (decide := true) (maxSteps := 4000000) only [go_sem, Nat.reduceAdd, Nat.reduceSub, Nat.reduceMul, Nat.reduceDiv, Nat.reduceMod, Nat.reduceLT, Nat.reduceLeDiff, Nat.reduceEqDiff, Nat.reduceBEq, Nat.reduceBNe, Nat.reduceGT, Int.reduceAdd, Int.reduceSub, Int.reduceMul, Int.reduceNeg, Int.reduceLT, Int.reduceLE, Int.reduceEq, Int.reduceNe, Int.reduceBEq, Int.reduceBNe, Int.reduceToNat, Int.reduceGT, Int.reduceGE, ↓reduceIte, decide_true, decide_false, eq_self, Nat.mul_one, Nat.zero_mul, Nat.one_mul, Int.le_refl, Nat.le_refl, Int.cast_ofNat_Int, hlt2, beq_self_eq_true, Ob.cs]
                refine hI2 _ ⟨a + 1, by omega⟩ (by simp only; omega) ?_
                simp (decide := true) (maxSteps := 4000000) only [go_sem, Nat.reduceAdd, Nat.reduceSub, Nat.reduceMul, Nat.reduceDiv, Nat.reduceMod, Nat.reduceLT, Nat.reduceLeDiff, Nat.reduceEqDiff, Nat.reduceBEq, Nat.reduceBNe, Nat.reduceGT, Int.reduceAdd, Int.reduceSub, Int.reduceMul, Int.reduceNeg, Int.reduceLT, Int.reduceLE, Int.reduceEq, Int.reduceNe, Int.reduceBEq, Int.reduceBNe, Int.reduceToNat, Int.reduceGT, Int.reduceGE, ↓reduceIte, decide_true, decide_false, eq_self, Nat.mul_one, Nat.zero_mul, Nat.one_mul, Int.le_refl, Nat.le_refl, Int.cast_ofNat_Int, hb1, hsm, Ob.cs]
              · have hab' : ((a : Int) == (b : Int)) = false := beq_int_f (by omega)
                have hne : ¬ (a : Int) = b := by omega
                have hsu := bstG_succ B T w hab
                obtain ⟨p, hp⟩ := get_lt hlt
                obtain ⟨q, hq⟩ := get_lt hlt2
                have d1 := flat_at Blank.cs (n := 5) (fun _ => rfl) hp
                have d2 := flat_at Blank.cs (n := 5) (fun _ => rfl) hq
                have z1 := hs'.2.2.1 p (List.mem_of_getElem? hp)
                have z2 := hs'.2.2.1 q (List.mem_of_getElem? hq)
                have wp : IntKind.i64.wrap (p.pr + q.pr) = p.pr + q.pr := wrap_in (by omega) (by omega)
                have hpr := fold_price B T w ((blankAt B (a : Int)).pr + (blankAt B (b : Int)).pr) (obs2 T.length a b) bst0 (fun o ho => obs2_price B ho) (fun h => by cases h)
                change (bstA B T w a b).is = true → (bstA B T w a b).p = _ at hpr
                rw [blankAt_eq hp, blankAt_eq hq] at hpr
                have c1 : (0 ≤ (a : Int) ∧ (a : Int) < B.length) ∧ (0 ≤ (b : Int) ∧ (b : Int) < B.length) := by omega
                obtain ⟨⟨Xo, Xn, Xp, Xi⟩, hX⟩ : ∃ X, bstG B T w a b = X := ⟨_, rfl⟩
                obtain ⟨⟨Yo, Yn, Yp, Yi⟩, hY⟩ : ∃ Y, bstA B T w a b = Y := ⟨_, rfl⟩
                rw [hX, hY] at hsu
                rw [hY] at hpr
                unfold cmb at hsu
                have fin : ∀ Z : Bst, bstG B T w a (b + 1) = Z → True := fun _ _ => trivial
                cases Yi with
                | false =>
                  rw [if_neg (by rintro ⟨h, _⟩; cases h)] at hsu
                  cases Xi <;> simp (decide := true) (maxSteps := 4000000) only [go_sem, Nat.reduceAdd, Nat.reduceSub, Nat.reduceMul, Nat.reduceDiv, Nat.reduceMod, Nat.reduceLT, Nat.reduceLeDiff, Nat.reduceEqDiff, Nat.reduceBEq, Nat.reduceBNe, Nat.reduceGT, Int.reduceAdd, Int.reduceSub, Int.reduceMul, Int.reduceNeg, Int.reduceLT, Int.reduceLE, Int.reduceEq, Int.reduceNe, Int.reduceBEq, Int.reduceBNe, Int.reduceToNat, Int.reduceGT, Int.reduceGE, ↓reduceIte, decide_true, decide_false, eq_self, Nat.mul_one, Nat.zero_mul, Nat.one_mul, Int.le_refl, Nat.le_refl, Int.cast_ofNat_Int, hX, hY, hlt, hlt2, hab', hne, hs, c1, Want.t, Ob.t, Ob.cs, d1, d2, Blank.cs, wp, Int.toNat_natCast]
                  all_goals refine hI2 _ ⟨b + 1, by omega⟩ (by simp only; omega) ?_
                  all_goals simp (decide := true) (maxSteps := 4000000) only [go_sem, Nat.reduceAdd, Nat.reduceSub, Nat.reduceMul, Nat.reduceDiv, Nat.reduceMod, Nat.reduceLT, Nat.reduceLeDiff, Nat.reduceEqDiff, Nat.reduceBEq, Nat.reduceBNe, Nat.reduceGT, Int.reduceAdd, Int.reduceSub, Int.reduceMul, Int.reduceNeg, Int.reduceLT, Int.reduceLE, Int.reduceEq, Int.reduceNe, Int.reduceBEq, Int.reduceBNe, Int.reduceToNat, Int.reduceGT, Int.reduceGE, ↓reduceIte, decide_true, decide_false, eq_self, Nat.mul_one, Nat.zero_mul, Nat.one_mul, Int.le_refl, Nat.le_refl, Int.cast_ofNat_Int, hb1, hsu, Ob.cs]
                | true =>
                  have hpr := hpr rfl
                  simp only at hpr
                  cases Xi with
                  | false =>
                    rw [if_pos ⟨rfl, .inl rfl⟩] at hsu
                    simp (decide := true) (maxSteps := 4000000) only [go_sem, Nat.reduceAdd, Nat.reduceSub, Nat.reduceMul, Nat.reduceDiv, Nat.reduceMod, Nat.reduceLT, Nat.reduceLeDiff, Nat.reduceEqDiff, Nat.reduceBEq, Nat.reduceBNe, Nat.reduceGT, Int.reduceAdd, Int.reduceSub, Int.reduceMul, Int.reduceNeg, Int.reduceLT, Int.reduceLE, Int.reduceEq, Int.reduceNe, Int.reduceBEq, Int.reduceBNe, Int.reduceToNat, Int.reduceGT, Int.reduceGE, ↓reduceIte, decide_true, decide_false, eq_self, Nat.mul_one, Nat.zero_mul, Nat.one_mul, Int.le_refl, Nat.le_refl, Int.cast_ofNat_Int, hX, hY, hlt, hlt2, hab', hne, hs, c1, Want.t, Ob.t, Ob.cs, d1, d2, Blank.cs, wp, Int.toNat_natCast]
                    refine hI2 _ ⟨b + 1, by omega⟩ (by simp only; omega) ?_
                    simp (decide := true) (maxSteps := 4000000) only [go_sem, Nat.reduceAdd, Nat.reduceSub, Nat.reduceMul, Nat.reduceDiv, Nat.reduceMod, Nat.reduceLT, Nat.reduceLeDiff, Nat.reduceEqDiff, Nat.reduceBEq, Nat.reduceBNe, Nat.reduceGT, Int.reduceAdd, Int.reduceSub, Int.reduceMul, Int.reduceNeg, Int.reduceLT, Int.reduceLE, Int.reduceEq, Int.reduceNe, Int.reduceBEq, Int.reduceBNe, Int.reduceToNat, Int.reduceGT, Int.reduceGE, ↓reduceIte, decide_true, decide_false, eq_self, Nat.mul_one, Nat.zero_mul, Nat.one_mul, Int.le_refl, Nat.le_refl, Int.cast_ofNat_Int, hb1, hsu, Ob.cs, hpr]
                  | true =>
                    by_cases h1 : Yn < Xn
                    · rw [if_pos ⟨rfl, .inr (.inl h1)⟩] at hsu
                      simp (decide := true) (maxSteps := 4000000) only [go_sem, Nat.reduceAdd, Nat.reduceSub, Nat.reduceMul, Nat.reduceDiv, Nat.reduceMod, Nat.reduceLT, Nat.reduceLeDiff, Nat.reduceEqDiff, Nat.reduceBEq, Nat.reduceBNe, Nat.reduceGT, Int.reduceAdd, Int.reduceSub, Int.reduceMul, Int.reduceNeg, Int.reduceLT, Int.reduceLE, Int.reduceEq, Int.reduceNe, Int.reduceBEq, Int.reduceBNe, Int.reduceToNat, Int.reduceGT, Int.reduceGE, ↓reduceIte, decide_true, decide_false, eq_self, Nat.mul_one, Nat.zero_mul, Nat.one_mul, Int.le_refl, Nat.le_refl, Int.cast_ofNat_Int, hX, hY, hlt, hlt2, hab', hne, hs, c1, Want.t, Ob.t, Ob.cs, d1, d2, Blank.cs, wp, h1, Int.toNat_natCast]
                      refine hI2 _ ⟨b + 1, by omega⟩ (by simp only; omega) ?_
                      simp (decide := true) (maxSteps := 4000000) only [go_sem, Nat.reduceAdd, Nat.reduceSub, Nat.reduceMul, Nat.reduceDiv, Nat.reduceMod, Nat.reduceLT, Nat.reduceLeDiff, Nat.reduceEqDiff, Nat.reduceBEq, Nat.reduceBNe, Nat.reduceGT, Int.reduceAdd, Int.reduceSub, Int.reduceMul, Int.reduceNeg, Int.reduceLT, Int.reduceLE, Int.reduceEq, Int.reduceNe, Int.reduceBEq, Int.reduceBNe, Int.reduceToNat, Int.reduceGT, Int.reduceGE, ↓reduceIte, decide_true, decide_false, eq_self, Nat.mul_one, Nat.zero_mul, Nat.one_mul, Int.le_refl, Nat.le_refl, Int.cast_ofNat_Int, hb1, hsu, Ob.cs, hpr]
                    · by_cases h2 : Yn = Xn
                      · have h2' : (Yn == Xn) = true := beq_int_t h2
                        by_cases h3 : p.pr + q.pr < Xp
                        · rw [if_pos ⟨rfl, .inr (.inr ⟨h2, by simp only; omega⟩)⟩] at hsu
                          simp (decide := true) (maxSteps := 4000000) only [go_sem, Nat.reduceAdd, Nat.reduceSub, Nat.reduceMul, Nat.reduceDiv, Nat.reduceMod, Nat.reduceLT, Nat.reduceLeDiff, Nat.reduceEqDiff, Nat.reduceBEq, Nat.reduceBNe, Nat.reduceGT, Int.reduceAdd, Int.reduceSub, Int.reduceMul, Int.reduceNeg, Int.reduceLT, Int.reduceLE, Int.reduceEq, Int.reduceNe, Int.reduceBEq, Int.reduceBNe, Int.reduceToNat, Int.reduceGT, Int.reduceGE, ↓reduceIte, decide_true, decide_false, eq_self, Nat.mul_one, Nat.zero_mul, Nat.one_mul, Int.le_refl, Nat.le_refl, Int.cast_ofNat_Int, hX, hY, hlt, hlt2, hab', hne, hs, c1, Want.t, Ob.t, Ob.cs, d1, d2, Blank.cs, wp, h1, h2', h3, Int.toNat_natCast]
                          refine hI2 _ ⟨b + 1, by omega⟩ (by simp only; omega) ?_
                          simp (decide := true) (maxSteps := 4000000) only [go_sem, Nat.reduceAdd, Nat.reduceSub, Nat.reduceMul, Nat.reduceDiv, Nat.reduceMod, Nat.reduceLT, Nat.reduceLeDiff, Nat.reduceEqDiff, Nat.reduceBEq, Nat.reduceBNe, Nat.reduceGT, Int.reduceAdd, Int.reduceSub, Int.reduceMul, Int.reduceNeg, Int.reduceLT, Int.reduceLE, Int.reduceEq, Int.reduceNe, Int.reduceBEq, Int.reduceBNe, Int.reduceToNat, Int.reduceGT, Int.reduceGE, ↓reduceIte, decide_true, decide_false, eq_self, Nat.mul_one, Nat.zero_mul, Nat.one_mul, Int.le_refl, Nat.le_refl, Int.cast_ofNat_Int, hb1, hsu, Ob.cs, hpr]
                        · rw [if_neg (by rintro ⟨_, h | h | h⟩; cases h; exact h1 h; exact h3 (by simp only at h; omega))] at hsu
                          simp (decide := true) (maxSteps := 4000000) only [go_sem, Nat.reduceAdd, Nat.reduceSub, Nat.reduceMul, Nat.reduceDiv, Nat.reduceMod, Nat.reduceLT, Nat.reduceLeDiff, Nat.reduceEqDiff, Nat.reduceBEq, Nat.reduceBNe, Nat.reduceGT, Int.reduceAdd, Int.reduceSub, Int.reduceMul, Int.reduceNeg, Int.reduceLT, Int.reduceLE, Int.reduceEq, Int.reduceNe, Int.reduceBEq, Int.reduceBNe, Int.reduceToNat, Int.reduceGT, Int.reduceGE, ↓reduceIte, decide_true, decide_false, eq_self, Nat.mul_one, Nat.zero_mul, Nat.one_mul, Int.le_refl, Nat.le_refl, Int.cast_ofNat_Int, hX, hY, hlt, hlt2, hab', hne, hs, c1, Want.t, Ob.t, Ob.cs, d1, d2, Blank.cs, wp, h1, h2', h3, Int.toNat_natCast]
                          refine hI2 _ ⟨b + 1, by omega⟩ (by simp only; omega) ?_
                          simp (decide := true) (maxSteps := 4000000) only [go_sem, Nat.reduceAdd, Nat.reduceSub, Nat.reduceMul, Nat.reduceDiv, Nat.reduceMod, Nat.reduceLT, Nat.reduceLeDiff, Nat.reduceEqDiff, Nat.reduceBEq, Nat.reduceBNe, Nat.reduceGT, Int.reduceAdd, Int.reduceSub, Int.reduceMul, Int.reduceNeg, Int.reduceLT, Int.reduceLE, Int.reduceEq, Int.reduceNe, Int.reduceBEq, Int.reduceBNe, Int.reduceToNat, Int.reduceGT, Int.reduceGE, ↓reduceIte, decide_true, decide_false, eq_self, Nat.mul_one, Nat.zero_mul, Nat.one_mul, Int.le_refl, Nat.le_refl, Int.cast_ofNat_Int, hb1, hsu, Ob.cs]
                      · have h2' : (Yn == Xn) = false := beq_int_f h2
                        rw [if_neg (by rintro ⟨_, h | h | h⟩; cases h; exact h1 h; exact h2 h.1)] at hsu
                        simp (decide := true) (maxSteps := 4000000) only [go_sem, Nat.reduceAdd, Nat.reduceSub, Nat.reduceMul, Nat.reduceDiv, Nat.reduceMod, Nat.reduceLT, Nat.reduceLeDiff, Nat.reduceEqDiff, Nat.reduceBEq, Nat.reduceBNe, Nat.reduceGT, Int.reduceAdd, Int.reduceSub, Int.reduceMul, Int.reduceNeg, Int.reduceLT, Int.reduceLE, Int.reduceEq, Int.reduceNe, Int.reduceBEq, Int.reduceBNe, Int.reduceToNat, Int.reduceGT, Int.reduceGE, ↓reduceIte, decide_true, decide_false, eq_self, Nat.mul_one, Nat.zero_mul, Nat.one_mul, Int.le_refl, Nat.le_refl, Int.cast_ofNat_Int, hX, hY, hlt, hlt2, hab', hne, hs, c1, Want.t, Ob.t, Ob.cs, d1, d2, Blank.cs, wp, h1, h2', Int.toNat_natCast]
                        refine hI2 _ ⟨b + 1, by omega⟩ (by simp only; omega) ?_
                        simp (decide := true) (maxSteps := 4000000) only [go_sem, Nat.reduceAdd, Nat.reduceSub, Nat.reduceMul, Nat.reduceDiv, Nat.reduceMod, Nat.reduceLT, Nat.reduceLeDiff, Nat.reduceEqDiff, Nat.reduceBEq, Nat.reduceBNe, Nat.reduceGT, Int.reduceAdd, Int.reduceSub, Int.reduceMul, Int.reduceNeg, Int.reduceLT, Int.reduceLE, Int.reduceEq, Int.reduceNe, Int.reduceBEq, Int.reduceBNe, Int.reduceToNat, Int.reduceGT, Int.reduceGE, ↓reduceIte, decide_true, decide_false, eq_self, Nat.mul_one, Nat.zero_mul, Nat.one_mul, Int.le_refl, Nat.le_refl, Int.cast_ofNat_Int, hb1, hsu, Ob.cs]
            · have hbe : b = B.length := by omega
              subst hbe
              have hnx := bstG_next B T w a
              simp (decide := true) (maxSteps := 4000000) only [go_sem, Nat.reduceAdd, Nat.reduceSub, Nat.reduceMul, Nat.reduceDiv, Nat.reduceMod, Nat.reduceLT, Nat.reduceLeDiff, Nat.reduceEqDiff, Nat.reduceBEq, Nat.reduceBNe, Nat.reduceGT, Int.reduceAdd, Int.reduceSub, Int.reduceMul, Int.reduceNeg, Int.reduceLT, Int.reduceLE, Int.reduceEq, Int.reduceNe, Int.reduceBEq, Int.reduceBNe, Int.reduceToNat, Int.reduceGT, Int.reduceGE, ↓reduceIte, decide_true, decide_false, eq_self, Nat.mul_one, Nat.zero_mul, Nat.one_mul, Int.le_refl, Nat.le_refl, Int.cast_ofNat_Int, hlt2]
              refine hQ2 _ _ ?_
              simp (decide := true) (maxSteps := 4000000) only [go_sem, Nat.reduceAdd, Nat.reduceSub, Nat.reduceMul, Nat.reduceDiv, Nat.reduceMod, Nat.reduceLT, Nat.reduceLeDiff, Nat.reduceEqDiff, Nat.reduceBEq, Nat.reduceBNe, Nat.reduceGT, Int.reduceAdd, Int.reduceSub, Int.reduceMul, Int.reduceNeg, Int.reduceLT, Int.reduceLE, Int.reduceEq, Int.reduceNe, Int.reduceBEq, Int.reduceBNe, Int.reduceToNat, Int.reduceGT, Int.reduceGE, ↓reduceIte, decide_true, decide_false, eq_self, Nat.mul_one, Nat.zero_mul, Nat.one_mul, Int.le_refl, Nat.le_refl, Int.cast_ofNat_Int]
              refine hI1 _ ⟨a + 1, by omega⟩ (by simp only; omega) ?_
              simp (decide := true) (maxSteps := 4000000) only [go_sem, Nat.reduceAdd, Nat.reduceSub, Nat.reduceMul, Nat.reduceDiv, Nat.reduceMod, Nat.reduceLT, Nat.reduceLeDiff, Nat.reduceEqDiff, Nat.reduceBEq, Nat.reduceBNe, Nat.reduceGT, Int.reduceAdd, Int.reduceSub, Int.reduceMul, Int.reduceNeg, Int.reduceLT, Int.reduceLE, Int.reduceEq, Int.reduceNe, Int.reduceBEq, Int.reduceBNe, Int.reduceToNat, Int.reduceGT, Int.reduceGE, ↓reduceIte, decide_true, decide_false, eq_self, Nat.mul_one, Nat.zero_mul, Nat.one_mul, Int.le_refl, Nat.le_refl, Int.cast_ofNat_Int, ha1, hnx, Ob.cs]
        · have hae : a = B.length := by omega
          subst hae
          simp (decide := true) (maxSteps := 4000000) only [go_sem, Nat.reduceAdd, Nat.reduceSub, Nat.reduceMul, Nat.reduceDiv, Nat.reduceMod, Nat.reduceLT, Nat.reduceLeDiff, Nat.reduceEqDiff, Nat.reduceBEq, Nat.reduceBNe, Nat.reduceGT, Int.reduceAdd, Int.reduceSub, Int.reduceMul, Int.reduceNeg, Int.reduceLT, Int.reduceLE, Int.reduceEq, Int.reduceNe, Int.reduceBEq, Int.reduceBNe, Int.reduceToNat, Int.reduceGT, Int.reduceGE, ↓reduceIte, decide_true, decide_false, eq_self, Nat.mul_one, Nat.zero_mul, Nat.one_mul, Int.le_refl, Nat.le_refl, Int.cast_ofNat_Int, hlt]
          refine hQ1 _ _ ?_
          generalize bstG B T w B.length 0 = X
          obtain ⟨Xo, Xn, Xp, Xi⟩ := X
          cases Xi <;> simp (decide := true) (maxSteps := 4000000) only [go_sem, Nat.reduceAdd, Nat.reduceSub, Nat.reduceMul, Nat.reduceDiv, Nat.reduceMod, Nat.reduceLT, Nat.reduceLeDiff, Nat.reduceEqDiff, Nat.reduceBEq, Nat.reduceBNe, Nat.reduceGT, Int.reduceAdd, Int.reduceSub, Int.reduceMul, Int.reduceNeg, Int.reduceLT, Int.reduceLE, Int.reduceEq, Int.reduceNe, Int.reduceBEq, Int.reduceBNe, Int.reduceToNat, Int.reduceGT, Int.reduceGE, ↓reduceIte, decide_true, decide_false, eq_self, Nat.mul_one, Nat.zero_mul, Nat.one_mul, Int.le_refl, Nat.le_refl, Int.cast_ofNat_Int, Ob.t, Ob.cs, bst0]
theorem rBest_ok : ∀ xs r, glBest xs = some r → PCalls Try.prog 26 xs r := by
  intro xs r h
  unfold glBest at h
  split at h
  · split at h
    · rename_i B T hB hT
      split at h
      · rename_i hc; cases h
        exact r4Best_c (rowL_some (un := unBlanks) rfl (@unBlanks_some) hB) (rowL_some (un := unSpans) rfl (@unSpans_some) hT) hc.1 hc.2 ⟨⟨_, _⟩, _⟩
      · cases h
    · cases h
  · cases h
noncomputable def spL3 : Pm.Spec := spI1.one 26 glBest
@[go_sem] theorem spL3_p (f : FuncId) (xs : List TV) : spL3.p f xs = Pm.Spec.p (spI1.one 26 glBest) f xs := rfl
@[go_sem] theorem spL3_h (f : FuncId) (ps : List PV) (hl : List PO) : spL3.h f ps hl = Pm.Spec.h (spI1.one 26 glBest) f ps hl := rfl
@[go_sem] theorem spL3_fz (f : FuncId) : spL3.fz f = Pm.Spec.fz (spI1.one 26 glBest) f := rfl
@[go_sem] theorem spL3_fr (f : FuncId) : spL3.fr f = Pm.Spec.fr (spI1.one 26 glBest) f := rfl
@[go_sem] theorem spL3_mu (t : TypeId) : spL3.mu t = Pm.Spec.mu (spI1.one 26 glBest) t := rfl
theorem spL3_ok : SpecOk Try.prog spL3 := Spec.one_ok rBest_ok spI1_ok
theorem GlassChooses_c {B : List Blank} {T : List Span} {sB sT : TV} (hB : IsRow Blank.cs sB B) (hT : IsRow Span.cs sT T) (hlB : B.length ≤ 5864062014806) (hlT : T.length ≤ 9000000000000) (w : Want) (o : Ob) : PCalls Try.prog 4 [.agg [sB, sT], w.t, o.t] (.bool true) := by
  have rB := rowB_is hB
  have rT := rowT_is hT
  unfold rowL at rB rT
  refine pcalls_by Try.mixes spL3_ok (fn := Try.f4) Try.func4 rfl (by kernel_rfl) (by show 3 ≤ _; decide) ?_
  simp (decide := true) (maxSteps := 4000000) only [go_sem, Nat.reduceAdd, Nat.reduceSub, Nat.reduceMul, Nat.reduceDiv, Nat.reduceMod, Nat.reduceLT, Nat.reduceLeDiff, Nat.reduceEqDiff, Nat.reduceBEq, Nat.reduceBNe, Nat.reduceGT, Int.reduceAdd, Int.reduceSub, Int.reduceMul, Int.reduceNeg, Int.reduceLT, Int.reduceLE, Int.reduceEq, Int.reduceNe, Int.reduceBEq, Int.reduceBNe, Int.reduceToNat, Int.reduceGT, Int.reduceGE, ↓reduceIte, decide_true, decide_false, eq_self, Nat.mul_one, Nat.zero_mul, Nat.one_mul, Int.le_refl, Nat.le_refl, Int.cast_ofNat_Int, Try.f4, Ob.t, Ob.cs, Want.t, rB, rT, hlB, hlT, bne_self_eq_false, beq_self_eq_true, Bool.and_self]
end Go.Proofs.Ytcjcnmpecmbdeaa

/- Part Gm. -/
namespace Go.Oc
open Go Go.Pm
theorem truth_within {B : List Blank} {T : List Span} (hs : stockOk B T = true) {ix co cu : List Int} (l1 : ix.length = B.length) (l2 : co.length = B.length) (l3 : cu.length = T.length)
    (h1 : ∀ i : Nat, i < B.length → (blankAt B i).i.lo ≤ nth ix i ∧ nth ix i ≤ (blankAt B i).i.hi) (h2 : ∀ i : Nat, i < B.length → (blankAt B i).c.lo ≤ nth co i ∧ nth co i ≤ (blankAt B i).c.hi) (h3 : ∀ i : Nat, i < T.length → (toolAt T i).lo ≤ nth cu i ∧ nth cu i ≤ (toolAt T i).hi) : truthOk B T ix co cu = true := by
  unfold truthOk tOkB tOkT
  rw [l1, l2, l3]
  simp only [beq_self_eq_true, Bool.and_self, Bool.true_and, Bool.and_eq_true, List.all_eq_true, List.mem_range, inB_iff]
  exact ⟨fun i hi => ⟨h1 i hi, h2 i hi⟩, h3⟩
theorem narrow_seen {B : List Blank} {T : List Span} (hs : stockOk B T = true) {o : Ob} (ho : obOk B.length T.length o = true) (k : Nat) :
    seenP B T o (cIx B o k B.length) (cCo B o k B.length) (cCu T k T.length) = (refV (blankAt B o.f).i (blankAt B o.s).i T o k, refV (blankAt B o.f).c (blankAt B o.s).c T o k, 0) := by
  have ho' := obOk_iff.1 ho
  obtain ⟨⟨c1, c2⟩, ⟨c3, c4⟩, c5⟩ := corner_seen ho k
  have ht : truthOk B T (cIx B o k B.length) (cCo B o k B.length) (cCu T k T.length) = true := by
    refine truth_within hs (cIx_len ..) (cCo_len ..) (cCu_len ..) (fun i hi => ?_) (fun i hi => ?_) (fun i hi => ?_)
    · unfold cIx; rw [nth_map (by omega) (by omega)]
      have := (blank_ok hs (i := i) (by omega) (by omega)).1
      exact endS_mem this.2.1 _
    · unfold cCo; rw [nth_map (by omega) (by omega)]
      have := (blank_ok hs (i := i) (by omega) (by omega)).2.1
      exact endS_mem this.2.1 _
    · unfold cCu; rw [nth_map (by omega) (by omega)]
      have := tool_ok hs (i := i) (by omega) (by omega)
      exact endS_mem this.2.1 _
  unfold seenP
  rw [hs, ho, ht, if_neg (by decide), if_neg (by decide), if_neg (by decide), c1, c2, c3, c4, c5 _ ho'.2.2.2.1.1 (by omega), c5 _ ho'.2.2.2.2.1.1 (by omega), c5 _ ho'.2.2.2.2.2.1 (by omega)]
  rfl
end Go.Oc
namespace Go.Proofs.Ytcjcnmpecmbdeaa
open Go.RowKit Go.Pm Go.Oc
set_option maxRecDepth 100000
set_option linter.unusedVariables false
set_option maxHeartbeats 4000000

theorem oNarrow_c {B : List Blank} {T : List Span} (fB fT : Bool) (h1 : 1 ≤ B.length ∧ B.length ≤ 8) (h2 : 1 ≤ T.length ∧ T.length ≤ 6) (o : Ob) (bits : Nat) : PCalls Try.prog 36 [.agg [.sl (B.flatMap Blank.cs) B.length fB, .sl (T.flatMap Span.cs) T.length fT], o.t, .int .i64 bits]
    (.agg [.sl (ints (cIx B o bits B.length)) B.length false, .sl (ints (cCo B o bits B.length)) B.length false, .sl (ints (cCu T bits T.length)) T.length false]) := by
  have b0 : 0 ≤ (bits : Int) := by omega
  have eT : ∀ s, endS s true = s.hi := fun _ => rfl
  have eF : ∀ s, endS s false = s.lo := fun _ => rfl
  refine pcalls_by Try.mixes spI1_ok (fn := Try.f36) Try.func36 rfl (by kernel_rfl) (by show 3 ≤ _; decide) ?_
  simp (decide := true) (maxSteps := 4000000) only [go_sem, Nat.reduceAdd, Nat.reduceSub, Nat.reduceMul, Nat.reduceDiv, Nat.reduceMod, Nat.reduceLT, Nat.reduceLeDiff, Nat.reduceEqDiff, Nat.reduceBEq, Nat.reduceBNe, Nat.reduceGT, Int.reduceAdd, Int.reduceSub, Int.reduceMul, Int.reduceNeg, Int.reduceLT, Int.reduceLE, Int.reduceEq, Int.reduceNe, Int.reduceBEq, Int.reduceBNe, Int.reduceToNat, Int.reduceGT, Int.reduceGE, ↓reduceIte, decide_true, decide_false, eq_self, Nat.mul_one, Nat.zero_mul, Nat.one_mul, Int.le_refl, Nat.le_refl, Int.cast_ofNat_Int, Try.f36, Ob.t, Ob.cs]
  refine pwpC_loopU (A := { k : Nat // k ≤ B.length }) [2, 3, 4, 6, 7] (fun k => [(8, .t (.int .i64 k.1))]) (fun k => [(3, .box [.own (ints (cIx B o bits k.1)) k.1 4, .own (ints (cCo B o bits k.1)) k.1 5, .t .nilSl]), (4, .tok k.1 3), (5, .tok k.1 3)]) (fun k => B.length - k.1) ⟨0, by omega⟩ (by decide) (fun _ => by rfl) ?_ fun Q1 hQ1 ⟨k, hk⟩ I1 hI1 => ?_
  · simp (decide := true) (maxSteps := 4000000) only [go_sem, Nat.reduceAdd, Nat.reduceSub, Nat.reduceMul, Nat.reduceDiv, Nat.reduceMod, Nat.reduceLT, Nat.reduceLeDiff, Nat.reduceEqDiff, Nat.reduceBEq, Nat.reduceBNe, Nat.reduceGT, Int.reduceAdd, Int.reduceSub, Int.reduceMul, Int.reduceNeg, Int.reduceLT, Int.reduceLE, Int.reduceEq, Int.reduceNe, Int.reduceBEq, Int.reduceBNe, Int.reduceToNat, Int.reduceGT, Int.reduceGE, ↓reduceIte, decide_true, decide_false, eq_self, Nat.mul_one, Nat.zero_mul, Nat.one_mul, Int.le_refl, Nat.le_refl, Int.cast_ofNat_Int, cIx, cCo, List.range_zero, List.map_nil, ints]
    first | done | exact ⟨rfl, rfl⟩
  · by_cases hlt : (k : Int) < B.length
    · obtain ⟨x, hx⟩ := get_lt hlt
      have hd := flat_at Blank.cs (n := 5) (fun _ => rfl) hx
      have hc1 : IntKind.i64.wrap (k + 1) = ((k + 1 : Nat) : Int) := by rw [wrap_in (by omega) (by omega)]; omega
      have s1 := cIx_succ B o bits k
      have s2 := cCo_succ B o bits k
      rw [blankAt_eq hx] at s1 s2
      have el1 : (ints (cIx B o bits k)).length = k := by rw [ints_len, cIx_len]
      have el2 : (ints (cCo B o bits k)).length = k := by rw [ints_len, cCo_len]
      have hroom : (k + 1) * 8 ≤ 140737488355328 := by omega
      have hhi : hiOf o bits k = (((k : Int) == o.f && bits.testBit 0) || ((k : Int) == o.s && bits.testBit 1)) := rfl
      cases g1 : ((k : Int) == o.f) <;> cases g2 : ((k : Int) == o.s) <;> cases g3 : bits.testBit 0 <;> cases g4 : bits.testBit 1 <;> rw [g1, g2, g3, g4] at hhi <;> simp only [Bool.and_true, Bool.and_false, Bool.or_true, Bool.or_false, Bool.true_and, Bool.false_and, Bool.and_self, Bool.or_self] at hhi <;> rw [hhi] at s1 s2 <;> simp only [eT, eF] at s1 s2
      all_goals simp (decide := true) (maxSteps := 4000000) only [go_sem, Nat.reduceAdd, Nat.reduceSub, Nat.reduceMul, Nat.reduceDiv, Nat.reduceMod, Nat.reduceLT, Nat.reduceLeDiff, Nat.reduceEqDiff, Nat.reduceBEq, Nat.reduceBNe, Nat.reduceGT, Int.reduceAdd, Int.reduceSub, Int.reduceMul, Int.reduceNeg, Int.reduceLT, Int.reduceLE, Int.reduceEq, Int.reduceNe, Int.reduceBEq, Int.reduceBNe, Int.reduceToNat, Int.reduceGT, Int.reduceGE, ↓reduceIte, decide_true, decide_false, eq_self, Nat.mul_one, Nat.zero_mul, Nat.one_mul, Int.le_refl, Nat.le_refl, Int.cast_ofNat_Int, hlt, b0, hd, Blank.cs, g1, g2, g3, g4, el1, el2, hroom, Int.toNat_natCast]
      all_goals refine hI1 _ ⟨k + 1, by omega⟩ (by simp only; omega) ?_
      all_goals simp (decide := true) (maxSteps := 4000000) only [go_sem, Nat.reduceAdd, Nat.reduceSub, Nat.reduceMul, Nat.reduceDiv, Nat.reduceMod, Nat.reduceLT, Nat.reduceLeDiff, Nat.reduceEqDiff, Nat.reduceBEq, Nat.reduceBNe, Nat.reduceGT, Int.reduceAdd, Int.reduceSub, Int.reduceMul, Int.reduceNeg, Int.reduceLT, Int.reduceLE, Int.reduceEq, Int.reduceNe, Int.reduceBEq, Int.reduceBNe, Int.reduceToNat, Int.reduceGT, Int.reduceGE, ↓reduceIte, decide_true, decide_false, eq_self, Nat.mul_one, Nat.zero_mul, Nat.one_mul, Int.le_refl, Nat.le_refl, Int.cast_ofNat_Int, hc1, s1, s2, ints_snoc']
    · have hke : k = B.length := by omega
      subst hke
      simp (decide := true) (maxSteps := 4000000) only [go_sem, Nat.reduceAdd, Nat.reduceSub, Nat.reduceMul, Nat.reduceDiv, Nat.reduceMod, Nat.reduceLT, Nat.reduceLeDiff, Nat.reduceEqDiff, Nat.reduceBEq, Nat.reduceBNe, Nat.reduceGT, Int.reduceAdd, Int.reduceSub, Int.reduceMul, Int.reduceNeg, Int.reduceLT, Int.reduceLE, Int.reduceEq, Int.reduceNe, Int.reduceBEq, Int.reduceBNe, Int.reduceToNat, Int.reduceGT, Int.reduceGE, ↓reduceIte, decide_true, decide_false, eq_self, Nat.mul_one, Nat.zero_mul, Nat.one_mul, Int.le_refl, Nat.le_refl, Int.cast_ofNat_Int, hlt]
      refine hQ1 _ _ ?_
      simp (decide := true) (maxSteps := 4000000) only [go_sem, Nat.reduceAdd, Nat.reduceSub, Nat.reduceMul, Nat.reduceDiv, Nat.reduceMod, Nat.reduceLT, Nat.reduceLeDiff, Nat.reduceEqDiff, Nat.reduceBEq, Nat.reduceBNe, Nat.reduceGT, Int.reduceAdd, Int.reduceSub, Int.reduceMul, Int.reduceNeg, Int.reduceLT, Int.reduceLE, Int.reduceEq, Int.reduceNe, Int.reduceBEq, Int.reduceBNe, Int.reduceToNat, Int.reduceGT, Int.reduceGE, ↓reduceIte, decide_true, decide_false, eq_self, Nat.mul_one, Nat.zero_mul, Nat.one_mul, Int.le_refl, Nat.le_refl, Int.cast_ofNat_Int]
      refine pwpC_loopU (A := { k : Nat // k ≤ T.length }) [2, 3, 4, 6, 7] (fun k => [(13, .t (.int .i64 k.1))]) (fun k => [(3, .box [.own (ints (cIx B o bits B.length)) B.length 4, .own (ints (cCo B o bits B.length)) B.length 5, .own (ints (cCu T bits k.1)) k.1 6]), (6, .tok k.1 3)]) (fun k => T.length - k.1) ⟨0, by omega⟩ (by decide) (fun _ => by rfl) ?_ fun Q2 hQ2 ⟨m, hm⟩ I2 hI2 => ?_
      · simp (decide := true) (maxSteps := 4000000) only [go_sem, Nat.reduceAdd, Nat.reduceSub, Nat.reduceMul, Nat.reduceDiv, Nat.reduceMod, Nat.reduceLT, Nat.reduceLeDiff, Nat.reduceEqDiff, Nat.reduceBEq, Nat.reduceBNe, Nat.reduceGT, Int.reduceAdd, Int.reduceSub, Int.reduceMul, Int.reduceNeg, Int.reduceLT, Int.reduceLE, Int.reduceEq, Int.reduceNe, Int.reduceBEq, Int.reduceBNe, Int.reduceToNat, Int.reduceGT, Int.reduceGE, ↓reduceIte, decide_true, decide_false, eq_self, Nat.mul_one, Nat.zero_mul, Nat.one_mul, Int.le_refl, Nat.le_refl, Int.cast_ofNat_Int, cCu, List.range_zero, List.map_nil, ints]
        first | done | rfl
      · by_cases hlt2 : (m : Int) < T.length
        · obtain ⟨y, hy⟩ := get_lt hlt2
          have hd := flat_at Span.cs (n := 2) (fun _ => rfl) hy
          have hc1 : IntKind.i64.wrap (m + 1) = ((m + 1 : Nat) : Int) := by rw [wrap_in (by omega) (by omega)]; omega
          have hc2 : IntKind.i64.wrap (2 + m) = ((2 + m : Nat) : Int) := by rw [wrap_in (by omega) (by omega)]; omega
          have s3 := cCu_succ T bits m
          rw [toolAt_eq hy] at s3
          have el3 : (ints (cCu T bits m)).length = m := by rw [ints_len, cCu_len]
          have hroom : (m + 1) * 8 ≤ 140737488355328 := by omega
          have hb : 0 ≤ (bits : Int) ∧ 0 ≤ ((2 + m : Nat) : Int) ∧ ((2 + m : Nat) : Int) < 64 := by omega
          cases g5 : bits.testBit (2 + m) <;> rw [g5] at s3 <;> simp only [eT, eF] at s3
          all_goals simp (decide := true) (maxSteps := 4000000) only [go_sem, Nat.reduceAdd, Nat.reduceSub, Nat.reduceMul, Nat.reduceDiv, Nat.reduceMod, Nat.reduceLT, Nat.reduceLeDiff, Nat.reduceEqDiff, Nat.reduceBEq, Nat.reduceBNe, Nat.reduceGT, Int.reduceAdd, Int.reduceSub, Int.reduceMul, Int.reduceNeg, Int.reduceLT, Int.reduceLE, Int.reduceEq, Int.reduceNe, Int.reduceBEq, Int.reduceBNe, Int.reduceToNat, Int.reduceGT, Int.reduceGE, ↓reduceIte, decide_true, decide_false, eq_self, Nat.mul_one, Nat.zero_mul, Nat.one_mul, Int.le_refl, Nat.le_refl, Int.cast_ofNat_Int, hlt2, hc2, hb, hd, Span.cs, el3, hroom, g5, Int.toNat_natCast]
          all_goals refine hI2 _ ⟨m + 1, by omega⟩ (by simp only; omega) ?_
          all_goals simp (decide := true) (maxSteps := 4000000) only [go_sem, Nat.reduceAdd, Nat.reduceSub, Nat.reduceMul, Nat.reduceDiv, Nat.reduceMod, Nat.reduceLT, Nat.reduceLeDiff, Nat.reduceEqDiff, Nat.reduceBEq, Nat.reduceBNe, Nat.reduceGT, Int.reduceAdd, Int.reduceSub, Int.reduceMul, Int.reduceNeg, Int.reduceLT, Int.reduceLE, Int.reduceEq, Int.reduceNe, Int.reduceBEq, Int.reduceBNe, Int.reduceToNat, Int.reduceGT, Int.reduceGE, ↓reduceIte, decide_true, decide_false, eq_self, Nat.mul_one, Nat.zero_mul, Nat.one_mul, Int.le_refl, Nat.le_refl, Int.cast_ofNat_Int, hc1, s3, ints_snoc']
        · have hme : m = T.length := by omega
          subst hme
          have n1 : ¬ B.length = 0 := by omega
          have n2 : ¬ T.length = 0 := by omega
          simp (decide := true) (maxSteps := 4000000) only [go_sem, Nat.reduceAdd, Nat.reduceSub, Nat.reduceMul, Nat.reduceDiv, Nat.reduceMod, Nat.reduceLT, Nat.reduceLeDiff, Nat.reduceEqDiff, Nat.reduceBEq, Nat.reduceBNe, Nat.reduceGT, Int.reduceAdd, Int.reduceSub, Int.reduceMul, Int.reduceNeg, Int.reduceLT, Int.reduceLE, Int.reduceEq, Int.reduceNe, Int.reduceBEq, Int.reduceBNe, Int.reduceToNat, Int.reduceGT, Int.reduceGE, ↓reduceIte, decide_true, decide_false, eq_self, Nat.mul_one, Nat.zero_mul, Nat.one_mul, Int.le_refl, Nat.le_refl, Int.cast_ofNat_Int, hlt2]
          refine hQ2 _ _ ?_
          simp (decide := true) (maxSteps := 4000000) only [go_sem, Nat.reduceAdd, Nat.reduceSub, Nat.reduceMul, Nat.reduceDiv, Nat.reduceMod, Nat.reduceLT, Nat.reduceLeDiff, Nat.reduceEqDiff, Nat.reduceBEq, Nat.reduceBNe, Nat.reduceGT, Int.reduceAdd, Int.reduceSub, Int.reduceMul, Int.reduceNeg, Int.reduceLT, Int.reduceLE, Int.reduceEq, Int.reduceNe, Int.reduceBEq, Int.reduceBNe, Int.reduceToNat, Int.reduceGT, Int.reduceGE, ↓reduceIte, decide_true, decide_false, eq_self, Nat.mul_one, Nat.zero_mul, Nat.one_mul, Int.le_refl, Nat.le_refl, Int.cast_ofNat_Int, n1, n2]
noncomputable def goNarrow : List TV → Option TV
  | [.agg [.sl cB n fB, .sl cT m fT], .agg [.int .i64 f, .int .i64 s, .int .i64 a, .int .i64 b, .int .i64 c], .int .i64 bits] => match unBlanks cB, unSpans cT with
    | some B, some T => if n = B.length ∧ m = T.length ∧ (1 ≤ B.length ∧ B.length ≤ 8) ∧ (1 ≤ T.length ∧ T.length ≤ 6) ∧ 0 ≤ bits then
        some (.agg [.sl (ints (cIx B ⟨f, s, a, b, c⟩ bits.toNat B.length)) B.length false, .sl (ints (cCo B ⟨f, s, a, b, c⟩ bits.toNat B.length)) B.length false, .sl (ints (cCu T bits.toNat T.length)) T.length false]) else none
    | _, _ => none
  | _ => none
theorem goNarrow_ok : ∀ xs r, goNarrow xs = some r → PCalls Try.prog 36 xs r := by
  intro xs r h
  unfold goNarrow at h
  split at h
  · rename_i cB n fB cT m fT f s a b c bits
    split at h
    · rename_i B T hB hT
      split at h
      · rename_i hc; cases h
        obtain ⟨rfl, rfl, h1, h2, h3⟩ := hc
        rw [unBlanks_some hB, unSpans_some hT]
        have := oNarrow_c (B := B) (T := T) fB fT h1 h2 ⟨f, s, a, b, c⟩ bits.toNat
        rw [Int.toNat_of_nonneg h3] at this
        exact this
      · cases h
    · cases h
  · cases h
attribute [go_sem] goNarrow
noncomputable def spM1 : Pm.Spec := spI1.one 36 goNarrow
@[go_sem] theorem spM1_p (f : FuncId) (xs : List TV) : spM1.p f xs = Pm.Spec.p (spI1.one 36 goNarrow) f xs := rfl
@[go_sem] theorem spM1_h (f : FuncId) (ps : List PV) (hl : List PO) : spM1.h f ps hl = Pm.Spec.h (spI1.one 36 goNarrow) f ps hl := rfl
@[go_sem] theorem spM1_fz (f : FuncId) : spM1.fz f = Pm.Spec.fz (spI1.one 36 goNarrow) f := rfl
@[go_sem] theorem spM1_fr (f : FuncId) : spM1.fr f = Pm.Spec.fr (spI1.one 36 goNarrow) f := rfl
@[go_sem] theorem spM1_mu (t : TypeId) : spM1.mu t = Pm.Spec.mu (spI1.one 36 goNarrow) t := rfl
theorem spM1_ok : SpecOk Try.prog spM1 := Spec.one_ok goNarrow_ok spI1_ok

theorem GlassEnds_c {B : List Blank} {T : List Span} {sB sT : TV} (hB : IsRow Blank.cs sB B) (hT : IsRow Span.cs sT T) (hlB : B.length ≤ 5864062014806) (hlT : T.length ≤ 9000000000000) (o : Ob) : PCalls Try.prog 8 [.agg [sB, sT], o.t] (.bool true) := by
  have rB := rowB_is hB
  have rT := rowT_is hT
  unfold rowL at rB rT
  have u1 : unBlanks [] = some [] := rfl
  have u2 : unSpans [] = some [] := rfl
  refine pcalls_by Try.mixes spM1_ok (fn := Try.f8) Try.func8 rfl (by kernel_rfl) (by show 2 ≤ _; decide) ?_
  rcases (Bool.eq_false_or_eq_true (stockOk B T)).symm with hs | hs
  · have sp : spansE B T o = (⟨⟨0, 0⟩, ⟨0, 0⟩⟩, 40) := by unfold spansE; rw [if_pos hs]
    rcases hB with ⟨rfl, rfl⟩ | ⟨fB, rfl⟩ <;> rcases hT with ⟨rfl, rfl⟩ | ⟨fT, rfl⟩ <;> simp (decide := true) (maxSteps := 4000000) only [go_sem, Nat.reduceAdd, Nat.reduceSub, Nat.reduceMul, Nat.reduceDiv, Nat.reduceMod, Nat.reduceLT, Nat.reduceLeDiff, Nat.reduceEqDiff, Nat.reduceBEq, Nat.reduceBNe, Nat.reduceGT, Int.reduceAdd, Int.reduceSub, Int.reduceMul, Int.reduceNeg, Int.reduceLT, Int.reduceLE, Int.reduceEq, Int.reduceNe, Int.reduceBEq, Int.reduceBNe, Int.reduceToNat, Int.reduceGT, Int.reduceGE, ↓reduceIte, decide_true, decide_false, eq_self, Nat.mul_one, Nat.zero_mul, Nat.one_mul, Int.le_refl, Nat.le_refl, Int.cast_ofNat_Int, Try.f8, Ob.t, Ob.cs, Span.t, Span.cs, u1, u2, rB, rT, hlB, hlT, sp, List.length_nil]
  · rcases (Bool.eq_false_or_eq_true (obOk B.length T.length o)).symm with ho | ho
    · have sp : spansE B T o = (⟨⟨0, 0⟩, ⟨0, 0⟩⟩, 41) := by unfold spansE; rw [if_neg (by rw [hs]; decide), if_pos ho]
      rcases hB with ⟨rfl, rfl⟩ | ⟨fB, rfl⟩ <;> rcases hT with ⟨rfl, rfl⟩ | ⟨fT, rfl⟩ <;> simp (decide := true) (maxSteps := 4000000) only [go_sem, Nat.reduceAdd, Nat.reduceSub, Nat.reduceMul, Nat.reduceDiv, Nat.reduceMod, Nat.reduceLT, Nat.reduceLeDiff, Nat.reduceEqDiff, Nat.reduceBEq, Nat.reduceBNe, Nat.reduceGT, Int.reduceAdd, Int.reduceSub, Int.reduceMul, Int.reduceNeg, Int.reduceLT, Int.reduceLE, Int.reduceEq, Int.reduceNe, Int.reduceBEq, Int.reduceBNe, Int.reduceToNat, Int.reduceGT, Int.reduceGE, ↓reduceIte, decide_true, decide_false, eq_self, Nat.mul_one, Nat.zero_mul, Nat.one_mul, Int.le_refl, Nat.le_refl, Int.cast_ofNat_Int, Try.f8, Ob.t, Ob.cs, Span.t, Span.cs, u1, u2, rB, rT, hlB, hlT, sp, List.length_nil]
    · have hs' := stockOk_iff.1 hs
      have ho' := obOk_iff.1 ho
      obtain ⟨fB, rfl⟩ := hB.ne (by omega)
      obtain ⟨fT, rfl⟩ := hT.ne (by omega)
      obtain ⟨N, hN⟩ : ∃ N, 2 ^ (T.length + 2) = N := ⟨_, rfl⟩
      have sp : spansE B T o = (⟨minmax (refL (blankAt B o.f).i (blankAt B o.s).i T o N), minmax (refL (blankAt B o.f).c (blankAt B o.s).c T o N)⟩, 0) := by
        unfold spansE
        rw [if_neg (by rw [hs]; decide), if_neg (by rw [ho]; decide), ← hN, refL_all ho, refL_all ho]; rfl
      have hNb : 8 ≤ N ∧ N ≤ 256 := by
        rcases (show T.length = 1 ∨ T.length = 2 ∨ T.length = 3 ∨ T.length = 4 ∨ T.length = 5 ∨ T.length = 6 by omega) with e | e | e | e | e | e <;> rw [e] at hN <;> subst hN <;> decide
      have hlz : ¬ (T.length : Int) < 0 := by omega
      have g1 : ¬ (B.length : Int) > 8 := by omega
      have g2 : ¬ (T.length : Int) > 6 := by omega
      have g3 : ¬ 8 < (B.length : Int) := by omega
      have g4 : ¬ 6 < (T.length : Int) := by omega
      have hsh : IntKind.i64.wrap (4 * 2 ^ min T.length 64) = (N : Int) := by
        rcases (show T.length = 1 ∨ T.length = 2 ∨ T.length = 3 ∨ T.length = 4 ∨ T.length = 5 ∨ T.length = 6 by omega) with e | e | e | e | e | e <;> rw [e] at hN ⊢ <;> subst hN <;> rfl
      simp (decide := true) (maxSteps := 4000000) only [go_sem, Nat.reduceAdd, Nat.reduceSub, Nat.reduceMul, Nat.reduceDiv, Nat.reduceMod, Nat.reduceLT, Nat.reduceLeDiff, Nat.reduceEqDiff, Nat.reduceBEq, Nat.reduceBNe, Nat.reduceGT, Int.reduceAdd, Int.reduceSub, Int.reduceMul, Int.reduceNeg, Int.reduceLT, Int.reduceLE, Int.reduceEq, Int.reduceNe, Int.reduceBEq, Int.reduceBNe, Int.reduceToNat, Int.reduceGT, Int.reduceGE, ↓reduceIte, decide_true, decide_false, eq_self, Nat.mul_one, Nat.zero_mul, Nat.one_mul, Int.le_refl, Nat.le_refl, Int.cast_ofNat_Int, Try.f8, Ob.t, Ob.cs, Span.t, Span.cs, rB, rT, hlB, hlT, sp, g1, g2, g3, g4]
      refine pwpC_loopU (A := { k : Nat // k ≤ N }) [2, 3, 4, 5, 6, 7, 8, 9] (fun k => [(10, .t (.int .i64 k.1))]) (fun k => [(4, .box ((minmax (refL (blankAt B o.f).i (blankAt B o.s).i T o k.1)).cs.map .t)), (5, .box ((minmax (refL (blankAt B o.f).c (blankAt B o.s).c T o k.1)).cs.map .t))]) (fun k => N - k.1) ⟨0, by omega⟩ (by decide) (fun _ => by rfl) ?_ fun Q1 hQ1 ⟨k, hk⟩ I1 hI1 => ?_
      · simp (decide := true) (maxSteps := 4000000) only [go_sem, Nat.reduceAdd, Nat.reduceSub, Nat.reduceMul, Nat.reduceDiv, Nat.reduceMod, Nat.reduceLT, Nat.reduceLeDiff, Nat.reduceEqDiff, Nat.reduceBEq, Nat.reduceBNe, Nat.reduceGT, Int.reduceAdd, Int.reduceSub, Int.reduceMul, Int.reduceNeg, Int.reduceLT, Int.reduceLE, Int.reduceEq, Int.reduceNe, Int.reduceBEq, Int.reduceBNe, Int.reduceToNat, Int.reduceGT, Int.reduceGE, ↓reduceIte, decide_true, decide_false, eq_self, Nat.mul_one, Nat.zero_mul, Nat.one_mul, Int.le_refl, Nat.le_refl, Int.cast_ofNat_Int, refL, List.range_zero, List.map_nil, minmax, Span.cs]
        first | done | exact ⟨rfl, rfl⟩
      · by_cases hlt : (k : Int) < N
        · have hc1 : IntKind.i64.wrap (k + 1) = ((k + 1 : Nat) : Int) := by rw [wrap_in (by omega) (by omega)]; omega
          have w1 := minmax_wider (refL (blankAt B o.f).i (blankAt B o.s).i T o k) (refV (blankAt B o.f).i (blankAt B o.s).i T o k) k (refL_len ..)
          have w2 := minmax_wider (refL (blankAt B o.f).c (blankAt B o.s).c T o k) (refV (blankAt B o.f).c (blankAt B o.s).c T o k) k (refL_len ..)
          rw [← refL_succ] at w1 w2
          have q1 : (1 ≤ B.length ∧ B.length ≤ 8) ∧ (1 ≤ T.length ∧ T.length ≤ 6) ∧ 0 ≤ (k : Int) := by omega
          have sn := narrow_seen hs ho k
          obtain ⟨⟨A0, A1⟩, hA⟩ : ∃ A, minmax (refL (blankAt B o.f).i (blankAt B o.s).i T o k) = A := ⟨_, rfl⟩
          obtain ⟨⟨C0, C1⟩, hC⟩ : ∃ A, minmax (refL (blankAt B o.f).c (blankAt B o.s).c T o k) = A := ⟨_, rfl⟩
          obtain ⟨⟨A2, A3⟩, hA2⟩ : ∃ A, minmax (refL (blankAt B o.f).i (blankAt B o.s).i T o (k + 1)) = A := ⟨_, rfl⟩
          obtain ⟨⟨C2, C3⟩, hC2⟩ : ∃ A, minmax (refL (blankAt B o.f).c (blankAt B o.s).c T o (k + 1)) = A := ⟨_, rfl⟩
          rw [hA, hA2] at w1
          rw [hC, hC2] at w2
          simp (decide := true) (maxSteps := 4000000) only [go_sem, Nat.reduceAdd, Nat.reduceSub, Nat.reduceMul, Nat.reduceDiv, Nat.reduceMod, Nat.reduceLT, Nat.reduceLeDiff, Nat.reduceEqDiff, Nat.reduceBEq, Nat.reduceBNe, Nat.reduceGT, Int.reduceAdd, Int.reduceSub, Int.reduceMul, Int.reduceNeg, Int.reduceLT, Int.reduceLE, Int.reduceEq, Int.reduceNe, Int.reduceBEq, Int.reduceBNe, Int.reduceToNat, Int.reduceGT, Int.reduceGE, ↓reduceIte, decide_true, decide_false, eq_self, Nat.mul_one, Nat.zero_mul, Nat.one_mul, Int.le_refl, Nat.le_refl, Int.cast_ofNat_Int, hlt, hlz, hsh, q1, hlB, hlT, rB, rT, unI_eq, cIx_len, cCo_len, cCu_len, sn, Int.toNat_natCast, Span.cs, hA, hC, w1, w2, Span.t]
          refine hI1 _ ⟨k + 1, by omega⟩ (by simp only; omega) ?_
          simp (decide := true) (maxSteps := 4000000) only [go_sem, Nat.reduceAdd, Nat.reduceSub, Nat.reduceMul, Nat.reduceDiv, Nat.reduceMod, Nat.reduceLT, Nat.reduceLeDiff, Nat.reduceEqDiff, Nat.reduceBEq, Nat.reduceBNe, Nat.reduceGT, Int.reduceAdd, Int.reduceSub, Int.reduceMul, Int.reduceNeg, Int.reduceLT, Int.reduceLE, Int.reduceEq, Int.reduceNe, Int.reduceBEq, Int.reduceBNe, Int.reduceToNat, Int.reduceGT, Int.reduceGE, ↓reduceIte, decide_true, decide_false, eq_self, Nat.mul_one, Nat.zero_mul, Nat.one_mul, Int.le_refl, Nat.le_refl, Int.cast_ofNat_Int, hc1, hA2, hC2, Span.cs]
        · have hke : k = N := by omega
          subst hke
          simp (decide := true) (maxSteps := 4000000) only [go_sem, Nat.reduceAdd, Nat.reduceSub, Nat.reduceMul, Nat.reduceDiv, Nat.reduceMod, Nat.reduceLT, Nat.reduceLeDiff, Nat.reduceEqDiff, Nat.reduceBEq, Nat.reduceBNe, Nat.reduceGT, Int.reduceAdd, Int.reduceSub, Int.reduceMul, Int.reduceNeg, Int.reduceLT, Int.reduceLE, Int.reduceEq, Int.reduceNe, Int.reduceBEq, Int.reduceBNe, Int.reduceToNat, Int.reduceGT, Int.reduceGE, ↓reduceIte, decide_true, decide_false, eq_self, Nat.mul_one, Nat.zero_mul, Nat.one_mul, Int.le_refl, Nat.le_refl, Int.cast_ofNat_Int, hlt, hlz, hsh]
          refine hQ1 _ _ ?_
          simp (decide := true) (maxSteps := 4000000) only [go_sem, Nat.reduceAdd, Nat.reduceSub, Nat.reduceMul, Nat.reduceDiv, Nat.reduceMod, Nat.reduceLT, Nat.reduceLeDiff, Nat.reduceEqDiff, Nat.reduceBEq, Nat.reduceBNe, Nat.reduceGT, Int.reduceAdd, Int.reduceSub, Int.reduceMul, Int.reduceNeg, Int.reduceLT, Int.reduceLE, Int.reduceEq, Int.reduceNe, Int.reduceBEq, Int.reduceBNe, Int.reduceToNat, Int.reduceGT, Int.reduceGE, ↓reduceIte, decide_true, decide_false, eq_self, Nat.mul_one, Nat.zero_mul, Nat.one_mul, Int.le_refl, Nat.le_refl, Int.cast_ofNat_Int, Span.cs, Span.t, beq_self_eq_true, Bool.and_self]
end Go.Proofs.Ytcjcnmpecmbdeaa
