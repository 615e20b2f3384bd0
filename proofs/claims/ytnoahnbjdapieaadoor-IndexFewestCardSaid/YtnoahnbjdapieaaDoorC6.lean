/- What the claim leans on, text 6. -/
import Derived.Test.YtnoahnbjdapieaaDoorTie
import Derived.Test.YtnoahnbjdapieaaDoorCards
import Derived.LaidMore
import Derived.SevenTiedAt
import Derived.Test.YtnoahnbjdapieaaDoorC5
set_option linter.unusedSimpArgs false
set_option linter.unusedVariables false

/- Part Im0. -/
namespace Go.Proofs.YtnoahnbjdapieaaDoor
open Go.RowKit Go.Pm Go.Oc
set_option maxRecDepth 100000
set_option linter.unusedVariables false
set_option maxHeartbeats 4000000

theorem lSound_c (t : Int) {l : List Int} {s : TV} (hl : IsRow ic s l) (hll : l.length ≤ 17592186044415) : PCalls Tryd.prog 31 [.agg [.int .i64 t, s]] (.bool (headOk t l)) := by
  have rI := rowI_is hl
  unfold rowL at rI
  refine pcalls_by Tryd.mixes spK3_ok (fn := Tryd.f31) Tryd.func31 rfl (by kernel_rfl) (by show 1 ≤ _; decide) ?_
  rcases hl with ⟨rfl, rfl⟩ | ⟨f, rfl⟩
  · have h0 : headOk t [] = false := by simp [headOk, inB]
    have e0 : unI [] = some [] := rfl
    simp (decide := true) (maxSteps := 4000000) only [go_sem, Nat.reduceAdd, Nat.reduceSub, Nat.reduceMul, Nat.reduceDiv, Nat.reduceMod, Nat.reduceLT, Nat.reduceLeDiff, Nat.reduceEqDiff, Nat.reduceBEq, Nat.reduceBNe, Nat.reduceGT, Int.reduceAdd, Int.reduceSub, Int.reduceMul, Int.reduceNeg, Int.reduceLT, Int.reduceLE, Int.reduceEq, Int.reduceNe, Int.reduceBEq, Int.reduceBNe, Int.reduceToNat, Int.reduceGT, Int.reduceGE, ↓reduceIte, decide_true, decide_false, eq_self, Nat.mul_one, Nat.zero_mul, Nat.one_mul, Int.le_refl, Nat.le_refl, Int.cast_ofNat_Int, Tryd.f31, e0, h0, List.length_nil]
  · rw [ic_ints] at rI ⊢
    simp only [unI_eq, if_true] at rI
    cases h0 : headOk t l with
    | false => simp (decide := true) (maxSteps := 4000000) only [go_sem, Nat.reduceAdd, Nat.reduceSub, Nat.reduceMul, Nat.reduceDiv, Nat.reduceMod, Nat.reduceLT, Nat.reduceLeDiff, Nat.reduceEqDiff, Nat.reduceBEq, Nat.reduceBNe, Nat.reduceGT, Int.reduceAdd, Int.reduceSub, Int.reduceMul, Int.reduceNeg, Int.reduceLT, Int.reduceLE, Int.reduceEq, Int.reduceNe, Int.reduceBEq, Int.reduceBNe, Int.reduceToNat, Int.reduceGT, Int.reduceGE, ↓reduceIte, decide_true, decide_false, eq_self, Nat.mul_one, Nat.zero_mul, Nat.one_mul, Int.le_refl, Nat.le_refl, Int.cast_ofNat_Int, Tryd.f31, rI, unI_eq, hll, h0]
    | true =>
      have hh := headOk_iff.1 h0
      have h1 : inB (l.length : Int) 1 12 = true := inB_iff.2 (by omega)
      have h2 : inB t 1 400 = true := inB_iff.2 (by omega)
      simp (decide := true) (maxSteps := 4000000) only [go_sem, Nat.reduceAdd, Nat.reduceSub, Nat.reduceMul, Nat.reduceDiv, Nat.reduceMod, Nat.reduceLT, Nat.reduceLeDiff, Nat.reduceEqDiff, Nat.reduceBEq, Nat.reduceBNe, Nat.reduceGT, Int.reduceAdd, Int.reduceSub, Int.reduceMul, Int.reduceNeg, Int.reduceLT, Int.reduceLE, Int.reduceEq, Int.reduceNe, Int.reduceBEq, Int.reduceBNe, Int.reduceToNat, Int.reduceGT, Int.reduceGE, ↓reduceIte, decide_true, decide_false, eq_self, Nat.mul_one, Nat.zero_mul, Nat.one_mul, Int.le_refl, Nat.le_refl, Int.cast_ofNat_Int, Tryd.f31, rI, unI_eq, hll, h0, h1, h2]
noncomputable def xSound : List TV → Option TV
  | [.agg [.int .i64 t, s]] => match rowL unI s with
    | some l => if l.length ≤ 17592186044415 then some (.bool (headOk t l)) else none
    | none => none
  | _ => none
theorem xSound_ok : ∀ xs r, xSound xs = some r → PCalls Tryd.prog 31 xs r := by
  intro xs r h
  unfold xSound at h
  split at h
  · split at h
    · rename_i l hl
      have hl := rowL_some (un := unI) rfl (@unI_some) hl
      split at h
      · rename_i hc; cases h; exact lSound_c _ hl hc
      · cases h
    · cases h
  · cases h
attribute [go_sem] xSound
theorem lMoved_c (t : Int) {l : List Int} (f : Bool) (hll : l.length ≤ 12) {c k h : Int} (hc : 0 ≤ c ∧ c < l.length) (hk : 0 ≤ k ∧ k ≤ 400) (hh : 0 ≤ h ∧ h ≤ nthI l c - 1) (hn : nthI l c ≤ 200) :
    PCalls Tryd.prog 33 [.agg [.int .i64 t, .sl (ints l) l.length f], .agg [.int .i64 c, .int .i64 k, .int .i64 h]] (.int .i64 (k * nthI l c + h)) := by
  obtain ⟨C, hC⟩ := Int.eq_ofNat_of_zero_le hc.1
  subst hC
  obtain ⟨x, hx⟩ := get_lt hc.2
  have hd := ints_at hx
  rw [Nat.mul_one] at hd
  have hnx := nthI_at hx
  rw [hnx] at hh hn ⊢
  have hlc := hc.2
  have wl : IntKind.i64.wrap ((l.length : Int) - 1) = (l.length : Int) - 1 := wrap_in (by omega) (by omega)
  have b1 : inB C 0 ((l.length : Int) - 1) = true := inB_iff.2 (by omega)
  have b2 : inB k 0 400 = true := inB_iff.2 (by omega)
  have wx : IntKind.i64.wrap (x - 1) = x - 1 := wrap_in (by omega) (by omega)
  have b3 : inB h 0 (x - 1) = true := inB_iff.2 (by omega)
  have m := mulB (a := k) (b := x) (A := 400) (B := 200) hk.1 (by omega) hk.2 hn
  have w1 : IntKind.i64.wrap (k * x) = k * x := wrap_in (by omega) (by omega)
  have w2 : IntKind.i64.wrap (k * x + h) = k * x + h := wrap_in (by omega) (by omega)
  refine pcalls_by Tryd.mixes spK1_ok (fn := Tryd.f33) Tryd.func33 rfl (by kernel_rfl) (by show 2 ≤ _; decide) ?_
  simp (decide := true) (maxSteps := 4000000) only [go_sem, Nat.reduceAdd, Nat.reduceSub, Nat.reduceMul, Nat.reduceDiv, Nat.reduceMod, Nat.reduceLT, Nat.reduceLeDiff, Nat.reduceEqDiff, Nat.reduceBEq, Nat.reduceBNe, Nat.reduceGT, Int.reduceAdd, Int.reduceSub, Int.reduceMul, Int.reduceNeg, Int.reduceLT, Int.reduceLE, Int.reduceEq, Int.reduceNe, Int.reduceBEq, Int.reduceBNe, Int.reduceToNat, Int.reduceGT, Int.reduceGE, ↓reduceIte, decide_true, decide_false, eq_self, Nat.mul_one, Nat.zero_mul, Nat.one_mul, Int.le_refl, Nat.le_refl, Int.cast_ofNat_Int, Tryd.f33, wl, b1, b2, hlc, hd, wx, b3, w1, w2]
noncomputable def xMoved : List TV → Option TV
  | [.agg [.int .i64 t, .sl cs m f], .agg [.int .i64 c, .int .i64 k, .int .i64 h]] => match unI cs with
    | some l => if m = l.length ∧ l.length ≤ 12 ∧ (0 ≤ c ∧ c < l.length) ∧ (0 ≤ k ∧ k ≤ 400) ∧ (0 ≤ h ∧ h ≤ nthI l c - 1) ∧ nthI l c ≤ 200 then some (.int .i64 (k * nthI l c + h)) else none
    | none => none
  | _ => none
theorem xMoved_ok : ∀ xs r, xMoved xs = some r → PCalls Tryd.prog 33 xs r := by
  intro xs r h
  unfold xMoved at h
  split at h
  · rename_i t cs m f c k hh
    split at h
    · rename_i l hl
      split at h
      · rename_i hc; cases h
        obtain ⟨rfl, h0, h1, h2, h3, h4⟩ := hc
        have e := unI_some hl
        rw [ic_ints] at e
        subst e
        exact lMoved_c t f h0 h1 h2 h3 h4
      · cases h
    · cases h
  · cases h
attribute [go_sem] xMoved
theorem lRatio_c {st : List Int} (full : Bool) (hok : stockOk1 st = true) (a b c d : Int) : PCalls Tryd.prog 39 [.sl (ints st) st.length full, .agg [.int .i64 a, .int .i64 b, .int .i64 c, .int .i64 d]]
    (.tup [.int .i64 (ratioP st ⟨a, b, c, d⟩).1, .int .i64 (ratioP st ⟨a, b, c, d⟩).2.1, .bool (ratioP st ⟨a, b, c, d⟩).2.2]) := by
  have hok' := stockOk1_iff.1 hok
  have hb : ∀ {k : Nat} {x : Int}, st[k]? = some x → 0 ≤ x ∧ x ≤ 200 := fun h => by have := hok'.2 _ (List.mem_of_getElem? h); omega
  have wl : IntKind.i64.wrap ((st.length : Int) - 1) = (st.length : Int) - 1 := wrap_in (by omega) (by omega)
  have op : ∀ {x : Int}, inB x 0 ((st.length : Int) - 1) = true → ∃ (k : Nat) (y : Int), x = k ∧ (k : Int) < st.length ∧ (ints st).drop k = .int .i64 y :: ints (st.drop (k + 1)) ∧ nthI st k = y ∧ 0 ≤ y ∧ y ≤ 200 := fun {x} h => by
    have h := inB_iff.1 h
    obtain ⟨k, rfl⟩ := Int.eq_ofNat_of_zero_le h.1
    have hlt : (k : Int) < st.length := by omega
    obtain ⟨y, hy⟩ := get_lt hlt
    have hd := ints_at hy
    rw [Nat.mul_one] at hd
    exact ⟨k, y, rfl, hlt, hd, nthI_at hy, hb hy⟩
  refine pcalls_by Tryd.mixes spK1_ok (fn := Tryd.f39) Tryd.func39 rfl (by kernel_rfl) (by show 2 ≤ _; decide) ?_
  cases h1 : inB a 0 ((st.length : Int) - 1) with
  | false =>
    have hR : ratioP st ⟨a, b, c, d⟩ = (0, 0, false) := by simp [ratioP, h1]
    simp (decide := true) (maxSteps := 4000000) only [go_sem, Nat.reduceAdd, Nat.reduceSub, Nat.reduceMul, Nat.reduceDiv, Nat.reduceMod, Nat.reduceLT, Nat.reduceLeDiff, Nat.reduceEqDiff, Nat.reduceBEq, Nat.reduceBNe, Nat.reduceGT, Int.reduceAdd, Int.reduceSub, Int.reduceMul, Int.reduceNeg, Int.reduceLT, Int.reduceLE, Int.reduceEq, Int.reduceNe, Int.reduceBEq, Int.reduceBNe, Int.reduceToNat, Int.reduceGT, Int.reduceGE, ↓reduceIte, decide_true, decide_false, eq_self, Nat.mul_one, Nat.zero_mul, Nat.one_mul, Int.le_refl, Nat.le_refl, Int.cast_ofNat_Int, Tryd.f39, wl, h1, hR]
  | true =>
  cases h2 : inB b 0 ((st.length : Int) - 1) with
  | false =>
    have hR : ratioP st ⟨a, b, c, d⟩ = (0, 0, false) := by simp [ratioP, h1, h2]
    simp (decide := true) (maxSteps := 4000000) only [go_sem, Nat.reduceAdd, Nat.reduceSub, Nat.reduceMul, Nat.reduceDiv, Nat.reduceMod, Nat.reduceLT, Nat.reduceLeDiff, Nat.reduceEqDiff, Nat.reduceBEq, Nat.reduceBNe, Nat.reduceGT, Int.reduceAdd, Int.reduceSub, Int.reduceMul, Int.reduceNeg, Int.reduceLT, Int.reduceLE, Int.reduceEq, Int.reduceNe, Int.reduceBEq, Int.reduceBNe, Int.reduceToNat, Int.reduceGT, Int.reduceGE, ↓reduceIte, decide_true, decide_false, eq_self, Nat.mul_one, Nat.zero_mul, Nat.one_mul, Int.le_refl, Nat.le_refl, Int.cast_ofNat_Int, Tryd.f39, wl, h1, h2, hR]
  | true =>
  cases h3 : (a == b) with
  | true =>
    have hR : ratioP st ⟨a, b, c, d⟩ = (0, 0, false) := by simp [ratioP, h1, h2, h3]
    simp (decide := true) (maxSteps := 4000000) only [go_sem, Nat.reduceAdd, Nat.reduceSub, Nat.reduceMul, Nat.reduceDiv, Nat.reduceMod, Nat.reduceLT, Nat.reduceLeDiff, Nat.reduceEqDiff, Nat.reduceBEq, Nat.reduceBNe, Nat.reduceGT, Int.reduceAdd, Int.reduceSub, Int.reduceMul, Int.reduceNeg, Int.reduceLT, Int.reduceLE, Int.reduceEq, Int.reduceNe, Int.reduceBEq, Int.reduceBNe, Int.reduceToNat, Int.reduceGT, Int.reduceGE, ↓reduceIte, decide_true, decide_false, eq_self, Nat.mul_one, Nat.zero_mul, Nat.one_mul, Int.le_refl, Nat.le_refl, Int.cast_ofNat_Int, Tryd.f39, wl, h1, h2, h3, hR]
  | false =>
  obtain ⟨A, x, rfl, la, da, na, xa⟩ := op h1
  obtain ⟨B, y, rfl, lb, db, nb, yb⟩ := op h2
  cases h4 : (c == -1) with
  | true =>
    have hc : c = -1 := by simpa using h4
    have h6 : inB c 0 ((st.length : Int) - 1) = false := by rw [hc]; rfl
    cases h5 : (d == -1) with
    | true =>
      have hR : ratioP st ⟨A, B, c, d⟩ = (x, y, true) := by simp [ratioP, h1, h2, h3, h4, h5, na, nb]
      simp (decide := true) (maxSteps := 4000000) only [go_sem, Nat.reduceAdd, Nat.reduceSub, Nat.reduceMul, Nat.reduceDiv, Nat.reduceMod, Nat.reduceLT, Nat.reduceLeDiff, Nat.reduceEqDiff, Nat.reduceBEq, Nat.reduceBNe, Nat.reduceGT, Int.reduceAdd, Int.reduceSub, Int.reduceMul, Int.reduceNeg, Int.reduceLT, Int.reduceLE, Int.reduceEq, Int.reduceNe, Int.reduceBEq, Int.reduceBNe, Int.reduceToNat, Int.reduceGT, Int.reduceGE, ↓reduceIte, decide_true, decide_false, eq_self, Nat.mul_one, Nat.zero_mul, Nat.one_mul, Int.le_refl, Nat.le_refl, Int.cast_ofNat_Int, Tryd.f39, wl, h1, h2, h3, h4, h5, la, da, lb, db, hR]
    | false =>
      have hR : ratioP st ⟨A, B, c, d⟩ = (0, 0, false) := by simp [ratioP, h1, h2, h3, h4, h5, h6]
      simp (decide := true) (maxSteps := 4000000) only [go_sem, Nat.reduceAdd, Nat.reduceSub, Nat.reduceMul, Nat.reduceDiv, Nat.reduceMod, Nat.reduceLT, Nat.reduceLeDiff, Nat.reduceEqDiff, Nat.reduceBEq, Nat.reduceBNe, Nat.reduceGT, Int.reduceAdd, Int.reduceSub, Int.reduceMul, Int.reduceNeg, Int.reduceLT, Int.reduceLE, Int.reduceEq, Int.reduceNe, Int.reduceBEq, Int.reduceBNe, Int.reduceToNat, Int.reduceGT, Int.reduceGE, ↓reduceIte, decide_true, decide_false, eq_self, Nat.mul_one, Nat.zero_mul, Nat.one_mul, Int.le_refl, Nat.le_refl, Int.cast_ofNat_Int, Tryd.f39, wl, h1, h2, h3, h4, h5, h6, hR]
  | false =>
  cases h6 : inB c 0 ((st.length : Int) - 1) with
  | false =>
    have hR : ratioP st ⟨A, B, c, d⟩ = (0, 0, false) := by simp [ratioP, h1, h2, h3, h4, h6]
    simp (decide := true) (maxSteps := 4000000) only [go_sem, Nat.reduceAdd, Nat.reduceSub, Nat.reduceMul, Nat.reduceDiv, Nat.reduceMod, Nat.reduceLT, Nat.reduceLeDiff, Nat.reduceEqDiff, Nat.reduceBEq, Nat.reduceBNe, Nat.reduceGT, Int.reduceAdd, Int.reduceSub, Int.reduceMul, Int.reduceNeg, Int.reduceLT, Int.reduceLE, Int.reduceEq, Int.reduceNe, Int.reduceBEq, Int.reduceBNe, Int.reduceToNat, Int.reduceGT, Int.reduceGE, ↓reduceIte, decide_true, decide_false, eq_self, Nat.mul_one, Nat.zero_mul, Nat.one_mul, Int.le_refl, Nat.le_refl, Int.cast_ofNat_Int, Tryd.f39, wl, h1, h2, h3, h4, h6, hR]
  | true =>
  cases h7 : inB d 0 ((st.length : Int) - 1) with
  | false =>
    have hR : ratioP st ⟨A, B, c, d⟩ = (0, 0, false) := by simp [ratioP, h1, h2, h3, h4, h6, h7]
    simp (decide := true) (maxSteps := 4000000) only [go_sem, Nat.reduceAdd, Nat.reduceSub, Nat.reduceMul, Nat.reduceDiv, Nat.reduceMod, Nat.reduceLT, Nat.reduceLeDiff, Nat.reduceEqDiff, Nat.reduceBEq, Nat.reduceBNe, Nat.reduceGT, Int.reduceAdd, Int.reduceSub, Int.reduceMul, Int.reduceNeg, Int.reduceLT, Int.reduceLE, Int.reduceEq, Int.reduceNe, Int.reduceBEq, Int.reduceBNe, Int.reduceToNat, Int.reduceGT, Int.reduceGE, ↓reduceIte, decide_true, decide_false, eq_self, Nat.mul_one, Nat.zero_mul, Nat.one_mul, Int.le_refl, Nat.le_refl, Int.cast_ofNat_Int, Tryd.f39, wl, h1, h2, h3, h4, h6, h7, hR]
  | true =>
  cases h8 : (c == d) with
  | true =>
    have hR : ratioP st ⟨A, B, c, d⟩ = (0, 0, false) := by simp [ratioP, h1, h2, h3, h4, h6, h7, h8]
    simp (decide := true) (maxSteps := 4000000) only [go_sem, Nat.reduceAdd, Nat.reduceSub, Nat.reduceMul, Nat.reduceDiv, Nat.reduceMod, Nat.reduceLT, Nat.reduceLeDiff, Nat.reduceEqDiff, Nat.reduceBEq, Nat.reduceBNe, Nat.reduceGT, Int.reduceAdd, Int.reduceSub, Int.reduceMul, Int.reduceNeg, Int.reduceLT, Int.reduceLE, Int.reduceEq, Int.reduceNe, Int.reduceBEq, Int.reduceBNe, Int.reduceToNat, Int.reduceGT, Int.reduceGE, ↓reduceIte, decide_true, decide_false, eq_self, Nat.mul_one, Nat.zero_mul, Nat.one_mul, Int.le_refl, Nat.le_refl, Int.cast_ofNat_Int, Tryd.f39, wl, h1, h2, h3, h4, h6, h7, h8, hR]
  | false =>
  cases h9 : ((A : Int) == c) with
  | true =>
    have hR : ratioP st ⟨A, B, c, d⟩ = (0, 0, false) := by simp [ratioP, h1, h2, h3, h4, h6, h7, h8, h9]
    simp (decide := true) (maxSteps := 4000000) only [go_sem, Nat.reduceAdd, Nat.reduceSub, Nat.reduceMul, Nat.reduceDiv, Nat.reduceMod, Nat.reduceLT, Nat.reduceLeDiff, Nat.reduceEqDiff, Nat.reduceBEq, Nat.reduceBNe, Nat.reduceGT, Int.reduceAdd, Int.reduceSub, Int.reduceMul, Int.reduceNeg, Int.reduceLT, Int.reduceLE, Int.reduceEq, Int.reduceNe, Int.reduceBEq, Int.reduceBNe, Int.reduceToNat, Int.reduceGT, Int.reduceGE, ↓reduceIte, decide_true, decide_false, eq_self, Nat.mul_one, Nat.zero_mul, Nat.one_mul, Int.le_refl, Nat.le_refl, Int.cast_ofNat_Int, Tryd.f39, wl, h1, h2, h3, h4, h6, h7, h8, h9, hR]
  | false =>
  cases h10 : ((A : Int) == d) with
  | true =>
    have hR : ratioP st ⟨A, B, c, d⟩ = (0, 0, false) := by simp [ratioP, h1, h2, h3, h4, h6, h7, h8, h9, h10]
    simp (decide := true) (maxSteps := 4000000) only [go_sem, Nat.reduceAdd, Nat.reduceSub, Nat.reduceMul, Nat.reduceDiv, Nat.reduceMod, Nat.reduceLT, Nat.reduceLeDiff, Nat.reduceEqDiff, Nat.reduceBEq, Nat.reduceBNe, Nat.reduceGT, Int.reduceAdd, Int.reduceSub, Int.reduceMul, Int.reduceNeg, Int.reduceLT, Int.reduceLE, Int.reduceEq, Int.reduceNe, Int.reduceBEq, Int.reduceBNe, Int.reduceToNat, Int.reduceGT, Int.reduceGE, ↓reduceIte, decide_true, decide_false, eq_self, Nat.mul_one, Nat.zero_mul, Nat.one_mul, Int.le_refl, Nat.le_refl, Int.cast_ofNat_Int, Tryd.f39, wl, h1, h2, h3, h4, h6, h7, h8, h9, h10, hR]
  | false =>
  cases h11 : ((B : Int) == c) with
  | true =>
    have hR : ratioP st ⟨A, B, c, d⟩ = (0, 0, false) := by simp [ratioP, h1, h2, h3, h4, h6, h7, h8, h9, h10, h11]
    simp (decide := true) (maxSteps := 4000000) only [go_sem, Nat.reduceAdd, Nat.reduceSub, Nat.reduceMul, Nat.reduceDiv, Nat.reduceMod, Nat.reduceLT, Nat.reduceLeDiff, Nat.reduceEqDiff, Nat.reduceBEq, Nat.reduceBNe, Nat.reduceGT, Int.reduceAdd, Int.reduceSub, Int.reduceMul, Int.reduceNeg, Int.reduceLT, Int.reduceLE, Int.reduceEq, Int.reduceNe, Int.reduceBEq, Int.reduceBNe, Int.reduceToNat, Int.reduceGT, Int.reduceGE, ↓reduceIte, decide_true, decide_false, eq_self, Nat.mul_one, Nat.zero_mul, Nat.one_mul, Int.le_refl, Nat.le_refl, Int.cast_ofNat_Int, Tryd.f39, wl, h1, h2, h3, h4, h6, h7, h8, h9, h10, h11, hR]
  | false =>
  cases h12 : ((B : Int) == d) with
  | true =>
    have hR : ratioP st ⟨A, B, c, d⟩ = (0, 0, false) := by simp [ratioP, h1, h2, h3, h4, h6, h7, h8, h9, h10, h11, h12]
    simp (decide := true) (maxSteps := 4000000) only [go_sem, Nat.reduceAdd, Nat.reduceSub, Nat.reduceMul, Nat.reduceDiv, Nat.reduceMod, Nat.reduceLT, Nat.reduceLeDiff, Nat.reduceEqDiff, Nat.reduceBEq, Nat.reduceBNe, Nat.reduceGT, Int.reduceAdd, Int.reduceSub, Int.reduceMul, Int.reduceNeg, Int.reduceLT, Int.reduceLE, Int.reduceEq, Int.reduceNe, Int.reduceBEq, Int.reduceBNe, Int.reduceToNat, Int.reduceGT, Int.reduceGE, ↓reduceIte, decide_true, decide_false, eq_self, Nat.mul_one, Nat.zero_mul, Nat.one_mul, Int.le_refl, Nat.le_refl, Int.cast_ofNat_Int, Tryd.f39, wl, h1, h2, h3, h4, h6, h7, h8, h9, h10, h11, h12, hR]
  | false =>
  have hR : ratioP st ⟨A, B, c, d⟩ = (nthI st A * nthI st c, nthI st B * nthI st d, true) := by simp [ratioP, h1, h2, h3, h4, h6, h7, h8, h9, h10, h11, h12]
  obtain ⟨C, z, rfl, lc, dc, nc, zc⟩ := op h6
  obtain ⟨D, v, rfl, ld, dd, nd, vd⟩ := op h7
  rw [na, nb, nc, nd] at hR
  have m1 := mulB (a := x) (b := z) (A := 200) (B := 200) xa.1 zc.1 xa.2 zc.2
  have m2 := mulB (a := y) (b := v) (A := 200) (B := 200) yb.1 vd.1 yb.2 vd.2
  have w1 : IntKind.i64.wrap (x * z) = x * z := wrap_in (by omega) (by omega)
  have w2 : IntKind.i64.wrap (y * v) = y * v := wrap_in (by omega) (by omega)
  simp (decide := true) (maxSteps := 4000000) only [go_sem, Nat.reduceAdd, Nat.reduceSub, Nat.reduceMul, Nat.reduceDiv, Nat.reduceMod, Nat.reduceLT, Nat.reduceLeDiff, Nat.reduceEqDiff, Nat.reduceBEq, Nat.reduceBNe, Nat.reduceGT, Int.reduceAdd, Int.reduceSub, Int.reduceMul, Int.reduceNeg, Int.reduceLT, Int.reduceLE, Int.reduceEq, Int.reduceNe, Int.reduceBEq, Int.reduceBNe, Int.reduceToNat, Int.reduceGT, Int.reduceGE, ↓reduceIte, decide_true, decide_false, eq_self, Nat.mul_one, Nat.zero_mul, Nat.one_mul, Int.le_refl, Nat.le_refl, Int.cast_ofNat_Int, Tryd.f39, wl, h1, h2, h3, h4, h6, h7, h8, h9, h10, h11, h12, la, da, lb, db, lc, dc, ld, dd, w1, w2, hR]
noncomputable def xRatio : List TV → Option TV
  | [.sl cs n full, .agg [.int .i64 a, .int .i64 b, .int .i64 c, .int .i64 d]] => match unI cs with
    | some st => if n = st.length ∧ stockOk1 st = true then some (.tup [.int .i64 (ratioP st ⟨a, b, c, d⟩).1, .int .i64 (ratioP st ⟨a, b, c, d⟩).2.1, .bool (ratioP st ⟨a, b, c, d⟩).2.2]) else none
    | none => none
  | _ => none
theorem xRatio_ok : ∀ xs r, xRatio xs = some r → PCalls Tryd.prog 39 xs r := by
  intro xs r h
  unfold xRatio at h
  split at h
  · rename_i cs n full a b c d
    split at h
    · rename_i st hl
      split at h
      · rename_i hc; cases h
        obtain ⟨rfl, h0⟩ := hc
        have e := unI_some hl
        rw [ic_ints] at e
        subst e
        exact lRatio_c full h0 a b c d
      · cases h
    · cases h
  · cases h
attribute [go_sem] xRatio
noncomputable def spM1 : Pm.Spec := ((spK3.one 31 xSound).one 33 xMoved).one 39 xRatio
@[go_sem] theorem spM1_p (f : FuncId) (xs : List TV) : spM1.p f xs = Pm.Spec.p (((spK3.one 31 xSound).one 33 xMoved).one 39 xRatio) f xs := rfl
@[go_sem] theorem spM1_h (f : FuncId) (ps : List PV) (hl : List PO) : spM1.h f ps hl = Pm.Spec.h (((spK3.one 31 xSound).one 33 xMoved).one 39 xRatio) f ps hl := rfl
@[go_sem] theorem spM1_fz (f : FuncId) : spM1.fz f = Pm.Spec.fz (((spK3.one 31 xSound).one 33 xMoved).one 39 xRatio) f := rfl
@[go_sem] theorem spM1_fr (f : FuncId) : spM1.fr f = Pm.Spec.fr (((spK3.one 31 xSound).one 33 xMoved).one 39 xRatio) f := rfl
@[go_sem] theorem spM1_mu (t : TypeId) : spM1.mu t = Pm.Spec.mu (((spK3.one 31 xSound).one 33 xMoved).one 39 xRatio) t := rfl
theorem spM1_ok : SpecOk Tryd.prog spM1 := Spec.one_ok xRatio_ok (Spec.one_ok xMoved_ok (Spec.one_ok xSound_ok spK3_ok))
end Go.Proofs.YtnoahnbjdapieaaDoor

/- Part In. -/
namespace Go.Oc
open Go Go.Pm
set_option maxRecDepth 100000
theorem before_not {h i k x g a b y : Int} (hr : g < h ∨ g = h ∧ ((a = i ∧ b = k ∧ y = x) ∨ a < i ∨ a = i ∧ (b < k ∨ b = k ∧ y < x))) : before [h, i, k, x] [g, a, b, y] = false := by
  simp only [before]
  split
  · omega
  · split
    · rfl
    · split
      · omega
      · split
        · rfl
        · split
          · omega
          · split
            · rfl
            · split
              · omega
              · split <;> rfl
theorem comp_few {t n : Int} {l : List Int} (h : l.length < 2) : compP t l n = none := by
  rw [compP_none]
  match hl : l, h with
  | [], _ => rfl
  | [a], _ => simp [cands, candI]
def chOk (a b : Int) : Bool := decide ((-9223372036854775808 ≤ a ∧ a ≤ 9223372036854775807) ∧ -9223372036854775808 ≤ b ∧ b ≤ 9223372036854775807)
theorem chOk_of {a b : Int} (h : (-9223372036854775808 ≤ a ∧ a ≤ 9223372036854775807) ∧ -9223372036854775808 ≤ b ∧ b ≤ 9223372036854775807) : chOk a b = true := decide_eq_true h
theorem unI4 (a b c d : Int) : unI [.int .i64 a, .int .i64 b, .int .i64 c, .int .i64 d] = some [a, b, c, d] := rfl
end Go.Oc
namespace Go.Proofs.YtnoahnbjdapieaaDoor
open Go.RowKit Go.Pm Go.Oc
set_option maxRecDepth 100000
set_option linter.unusedVariables false
set_option maxHeartbeats 8000000

noncomputable def gCh : List TV → Option TV
  | [.int .i64 a, .int .i64 b, .int .i64 n] => if chOk a b = true then some (.int .i64 (chosen a b n)) else none
  | _ => none
theorem gCh_ok : ∀ xs r, gCh xs = some r → PCalls Tryd.prog 35 xs r := by
  intro xs r h
  unfold gCh at h
  split at h
  · split at h
    · rename_i hc; cases h; exact Chosen_c _ _ _ (of_decide_eq_true hc).1 (of_decide_eq_true hc).2
    · cases h
  · cases h
attribute [go_sem] gCh
noncomputable def spN1 : Pm.Spec := spM1.one 35 gCh
@[go_sem] theorem spN1_p (f : FuncId) (xs : List TV) : spN1.p f xs = Pm.Spec.p (spM1.one 35 gCh) f xs := rfl
@[go_sem] theorem spN1_h (f : FuncId) (ps : List PV) (hl : List PO) : spN1.h f ps hl = Pm.Spec.h (spM1.one 35 gCh) f ps hl := rfl
@[go_sem] theorem spN1_fz (f : FuncId) : spN1.fz f = Pm.Spec.fz (spM1.one 35 gCh) f := rfl
@[go_sem] theorem spN1_fr (f : FuncId) : spN1.fr f = Pm.Spec.fr (spM1.one 35 gCh) f := rfl
@[go_sem] theorem spN1_mu (t : TypeId) : spN1.mu t = Pm.Spec.mu (spM1.one 35 gCh) t := rfl
theorem spN1_ok : SpecOk Tryd.prog spN1 := Spec.one_ok gCh_ok spM1_ok
theorem IndexFewest_c (t : Int) {l : List Int} {s : TV} (hl : IsRow ic s l) (hll : l.length ≤ 17592186044415) (n : Int) (m0 m1 m2 : Int) : PCalls Tryd.prog 8 [.agg [.int .i64 t, s], .int .i64 n, .agg [.int .i64 m0, .int .i64 m1, .int .i64 m2]] (.bool true) := by
  have rI := rowI_is hl
  unfold rowL at rI
  have e0 : unI [] = some [] := rfl
  have hz : ∀ k : Int, ¬ k = 0 → ¬ k = 4 → compE t l n = (⟨0, 0, 0, 0⟩, k) → PCalls Tryd.prog 8 [.agg [.int .i64 t, s], .int .i64 n, .agg [.int .i64 m0, .int .i64 m1, .int .i64 m2]] (.bool true) := by
    intro k hk hk4 hC
    have k1 : (k != 0) = true := bne_int_t hk
    have k2 : (k != 4) = true := bne_int_t hk4
    refine pcalls_by Tryd.mixes spN1_ok (fn := Tryd.f8) Tryd.func8 rfl (by kernel_rfl) (by show 3 ≤ _; decide) ?_
    rcases hl with ⟨rfl, rfl⟩ | ⟨f, rfl⟩
    · simp only [e0] at rI
      simp (decide := true) (maxSteps := 4000000) only [go_sem, Nat.reduceAdd, Nat.reduceSub, Nat.reduceMul, Nat.reduceDiv, Nat.reduceMod, Nat.reduceLT, Nat.reduceLeDiff, Nat.reduceEqDiff, Nat.reduceBEq, Nat.reduceBNe, Nat.reduceGT, Int.reduceAdd, Int.reduceSub, Int.reduceMul, Int.reduceNeg, Int.reduceLT, Int.reduceLE, Int.reduceEq, Int.reduceNe, Int.reduceBEq, Int.reduceBNe, Int.reduceToNat, Int.reduceGT, Int.reduceGE, ↓reduceIte, decide_true, decide_false, eq_self, Nat.mul_one, Nat.zero_mul, Nat.one_mul, Int.le_refl, Nat.le_refl, Int.cast_ofNat_Int, Tryd.f8, e0, List.length_nil, hC, k1, k2, Pr.tv, Pr.cs]
    · simp (decide := true) (maxSteps := 4000000) only [go_sem, Nat.reduceAdd, Nat.reduceSub, Nat.reduceMul, Nat.reduceDiv, Nat.reduceMod, Nat.reduceLT, Nat.reduceLeDiff, Nat.reduceEqDiff, Nat.reduceBEq, Nat.reduceBNe, Nat.reduceGT, Int.reduceAdd, Int.reduceSub, Int.reduceMul, Int.reduceNeg, Int.reduceLT, Int.reduceLE, Int.reduceEq, Int.reduceNe, Int.reduceBEq, Int.reduceBNe, Int.reduceToNat, Int.reduceGT, Int.reduceGE, ↓reduceIte, decide_true, decide_false, eq_self, Nat.mul_one, Nat.zero_mul, Nat.one_mul, Int.le_refl, Nat.le_refl, Int.cast_ofNat_Int, Tryd.f8, rI, hll, hC, k1, k2, Pr.tv, Pr.cs]
  cases h1 : headOk t l with
  | false => exact hz 10 (by decide) (by decide) (by unfold compE; rw [if_pos h1])
  | true =>
  cases h2 : inB n 1 20000 with
  | false => exact hz 11 (by decide) (by decide) (by unfold compE; rw [h1, h2]; rfl)
  | true =>
    clear hz
    have hh := headOk_iff.1 h1
    have hn := inB_iff.1 h2
    obtain ⟨f, rfl⟩ := hl.ne (by omega)
    rw [ic_ints] at rI ⊢
    simp only [unI_eq, if_true] at rI
    refine pcalls_by Tryd.mixes spN1_ok (fn := Tryd.f8) Tryd.func8 rfl (by kernel_rfl) (by show 3 ≤ _; decide) ?_
    by_cases hl2 : (l.length : Int) < 2
    · have hC : compE t l n = (⟨0, 0, 0, 0⟩, 4) := by unfold compE; rw [h1, h2, comp_few (by omega)]; rfl
      simp (decide := true) (maxSteps := 4000000) only [go_sem, Nat.reduceAdd, Nat.reduceSub, Nat.reduceMul, Nat.reduceDiv, Nat.reduceMod, Nat.reduceLT, Nat.reduceLeDiff, Nat.reduceEqDiff, Nat.reduceBEq, Nat.reduceBNe, Nat.reduceGT, Int.reduceAdd, Int.reduceSub, Int.reduceMul, Int.reduceNeg, Int.reduceLT, Int.reduceLE, Int.reduceEq, Int.reduceNe, Int.reduceBEq, Int.reduceBNe, Int.reduceToNat, Int.reduceGT, Int.reduceGE, ↓reduceIte, decide_true, decide_false, eq_self, Nat.mul_one, Nat.zero_mul, Nat.one_mul, Int.le_refl, Nat.le_refl, Int.cast_ofNat_Int, Tryd.f8, rI, unI_eq, hll, hC, h1, hl2, Pr.tv, Pr.cs]
    · have hct : (compE t l n).2 = 0 ∨ (compE t l n).2 = 4 := by
        unfold compE; rw [h1, h2]
        cases compP t l n
        · right; rfl
        · left; rfl
      obtain ⟨N1, hN1⟩ : ∃ N1, (l.length : Int) - 1 = N1 := ⟨_, rfl⟩
      have wl : IntKind.i64.wrap ((l.length : Int) - 1) = N1 := by rw [hN1]; exact wrap_in (by omega) (by omega)
      have cM1 : 0 < N1 := by omega
      have cM2 : N1 ≤ 9223372036854775807 := by omega
      have hI1 := Int.emod_nonneg m0 (show N1 ≠ 0 by omega)
      have hI2 := Int.emod_lt_of_pos m0 (show 0 < N1 by omega)
      obtain ⟨I, hI⟩ := Int.eq_ofNat_of_zero_le hI1
      rw [hI] at hI2
      obtain ⟨J, hJ⟩ : ∃ J, (I : Int) + 1 = J := ⟨_, rfl⟩
      have wI : IntKind.i64.wrap ((I : Int) + 1) = J := by rw [hJ]; exact wrap_in (by omega) (by omega)
      have cC := chOk_of (a := J) (b := N1) (by omega)
      have cC2 := chOk_of (a := -60) (b := 60) (by omega)
      have hK := chosen_mem (lo := J) (hi := N1) m1 (by omega)
      obtain ⟨K, hKe⟩ := Int.eq_ofNat_of_zero_le (show 0 ≤ chosen J N1 m1 by omega)
      rw [hKe] at hK
      have hX := chosen_mem (lo := -60) (hi := 60) m2 (by omega)
      obtain ⟨X, hXe⟩ : ∃ X, chosen (-60) 60 m2 = X := ⟨_, rfl⟩
      rw [hXe] at hX
      have hlI : (I : Int) < l.length := by omega
      have hlK : (K : Int) < l.length := by omega
      obtain ⟨a, hxa⟩ := get_lt hlI
      obtain ⟨b, hxb⟩ := get_lt hlK
      have hda := ints_at hxa
      have hdb := ints_at hxb
      rw [Nat.mul_one] at hda hdb
      have hba := head_at h1 hxa
      have hbb := head_at h1 hxb
      have hna := nthI_at hxa
      have hnb := nthI_at hxb
      have q1 := mulB (a := t) (b := a) (A := 400) (B := 200) (by omega) (by omega) (by omega) (by omega)
      have q2 := mulB (a := t * a) (b := b) (A := 80000) (B := 200) q1.1 (by omega) (by omega) (by omega)
      have w1 : IntKind.i64.wrap (t * a) = t * a := wrap_in (by omega) (by omega)
      have w2 : IntKind.i64.wrap (t * a * b) = t * a * b := wrap_in (by omega) (by omega)
      have q3 := mulB (a := n) (b := a) (A := 20000) (B := 200) (by omega) (by omega) (by omega) (by omega)
      have q4 := Int.mul_pos (show 0 < n by omega) (show 0 < a by omega)
      have w3 : IntKind.i64.wrap (n * a) = n * a := wrap_in (by omega) (by omega)
      obtain ⟨M, hM⟩ : ∃ M, n * a = M := ⟨_, rfl⟩
      rw [hM] at w3 q3 q4
      have cN : 0 < M ∧ M ≤ 9223372036854775807 := by omega
      obtain ⟨⟨⟨ca, cb, cx, cy⟩, e⟩, hCe⟩ : ∃ x, compE t l n = x := ⟨_, rfl⟩
      rw [hCe] at hct
      simp only at hct
      rcases hct with rfl | rfl
      all_goals
        simp (decide := true) (maxSteps := 4000000) only [go_sem, Nat.reduceAdd, Nat.reduceSub, Nat.reduceMul, Nat.reduceDiv, Nat.reduceMod, Nat.reduceLT, Nat.reduceLeDiff, Nat.reduceEqDiff, Nat.reduceBEq, Nat.reduceBNe, Nat.reduceGT, Int.reduceAdd, Int.reduceSub, Int.reduceMul, Int.reduceNeg, Int.reduceLT, Int.reduceLE, Int.reduceEq, Int.reduceNe, Int.reduceBEq, Int.reduceBNe, Int.reduceToNat, Int.reduceGT, Int.reduceGE, ↓reduceIte, decide_true, decide_false, eq_self, Nat.mul_one, Nat.zero_mul, Nat.one_mul, Int.le_refl, Nat.le_refl, Int.cast_ofNat_Int, Tryd.f8, rI, unI_eq, hll, hCe, h1, h2, hl2, wl, cM1, cM2, hI, wI, cC, cC2, hKe, hXe, hlI, hlK, hda, hdb, Pr.tv, Pr.cs]
        refine pwpC_loopU (A := { s : Nat // s ≤ 200 }) [1, 3, 5, 6, 7, 8, 9, 10, 11, 12, 13] (fun s => [(14, .t (.int .i64 s.1))]) (fun _ => []) (fun s => 200 - s.1) ⟨0, by omega⟩ (by decide) (fun _ => by rfl) ?_ fun Q1 hQ1 ⟨s, hs⟩ I1 hI1' => ?_
        · simp (decide := true) (maxSteps := 4000000) only [go_sem, Nat.reduceAdd, Nat.reduceSub, Nat.reduceMul, Nat.reduceDiv, Nat.reduceMod, Nat.reduceLT, Nat.reduceLeDiff, Nat.reduceEqDiff, Nat.reduceBEq, Nat.reduceBNe, Nat.reduceGT, Int.reduceAdd, Int.reduceSub, Int.reduceMul, Int.reduceNeg, Int.reduceLT, Int.reduceLE, Int.reduceEq, Int.reduceNe, Int.reduceBEq, Int.reduceBNe, Int.reduceToNat, Int.reduceGT, Int.reduceGE, ↓reduceIte, decide_true, decide_false, eq_self, Nat.mul_one, Nat.zero_mul, Nat.one_mul, Int.le_refl, Nat.le_refl, Int.cast_ofNat_Int]
        · by_cases hlt : (s : Int) < 200
          · have hs1 : IntKind.i64.wrap ((s : Int) + 1) = ((s + 1 : Nat) : Int) := by rw [wrap_in (by omega) (by omega)]; omega
            obtain ⟨Z, hZ⟩ : ∃ Z, X + (s : Int) = Z := ⟨_, rfl⟩
            have wZ : IntKind.i64.wrap (X + (s : Int)) = Z := by rw [hZ]; exact wrap_in (by omega) (by omega)
            have u1 : n * Z ≤ n * 260 := Int.mul_le_mul_of_nonneg_left (by omega) (by omega)
            have u2 : n * (-60) ≤ n * Z := Int.mul_le_mul_of_nonneg_left (by omega) (by omega)
            have u3 : n * Z * b ≤ 5200000 * b := Int.mul_le_mul_of_nonneg_right (by omega) (by omega)
            have u4 : -1200000 * b ≤ n * Z * b := Int.mul_le_mul_of_nonneg_right (by omega) (by omega)
            have v1 : IntKind.i64.wrap (n * Z) = n * Z := wrap_in (by omega) (by omega)
            have v2 : IntKind.i64.wrap (n * Z * b) = n * Z * b := wrap_in (by omega) (by omega)
            obtain ⟨R, hR⟩ : ∃ R, t * a * b - n * Z * b = R := ⟨_, rfl⟩
            have v3 : IntKind.i64.wrap (t * a * b - n * Z * b) = R := by rw [hR]; exact wrap_in (by omega) (by omega)
            have cD : (-4000000000000000000 ≤ R ∧ R ≤ 4000000000000000000) ∧ 0 < M ∧ M ≤ 4000000000000000000 := by omega
            by_cases hd : R % M = 0
            · have e1 : (R % M == 0) = true := beq_int_t hd
              obtain ⟨y, hy⟩ : ∃ y, R / M = y := ⟨_, rfl⟩
              cases hY : inB y (-2000) 2000 with
              | false =>
                simp (decide := true) (maxSteps := 4000000) only [go_sem, Nat.reduceAdd, Nat.reduceSub, Nat.reduceMul, Nat.reduceDiv, Nat.reduceMod, Nat.reduceLT, Nat.reduceLeDiff, Nat.reduceEqDiff, Nat.reduceBEq, Nat.reduceBNe, Nat.reduceGT, Int.reduceAdd, Int.reduceSub, Int.reduceMul, Int.reduceNeg, Int.reduceLT, Int.reduceLE, Int.reduceEq, Int.reduceNe, Int.reduceBEq, Int.reduceBNe, Int.reduceToNat, Int.reduceGT, Int.reduceGE, ↓reduceIte, decide_true, decide_false, eq_self, Nat.mul_one, Nat.zero_mul, Nat.one_mul, Int.le_refl, Nat.le_refl, Int.cast_ofNat_Int, hlt, w1, w2, wZ, v1, v2, v3, hM, w3, cN, cD, e1, hy, hY]
                refine hI1' _ ⟨s + 1, by omega⟩ (by simp only; omega) ?_
                simp (decide := true) (maxSteps := 4000000) only [go_sem, Nat.reduceAdd, Nat.reduceSub, Nat.reduceMul, Nat.reduceDiv, Nat.reduceMod, Nat.reduceLT, Nat.reduceLeDiff, Nat.reduceEqDiff, Nat.reduceBEq, Nat.reduceBNe, Nat.reduceGT, Int.reduceAdd, Int.reduceSub, Int.reduceMul, Int.reduceNeg, Int.reduceLT, Int.reduceLE, Int.reduceEq, Int.reduceNe, Int.reduceBEq, Int.reduceBNe, Int.reduceToNat, Int.reduceGT, Int.reduceGE, ↓reduceIte, decide_true, decide_false, eq_self, Nat.mul_one, Nat.zero_mul, Nat.one_mul, Int.le_refl, Nat.le_refl, Int.cast_ofNat_Int, hs1]
              | true =>
                have hYb := inB_iff.1 hY
                obtain ⟨r, hr, hb⟩ := comp_fewest (t := t) (n := n) (l := l) (i := I) (k := K) (x := Z) (y := y) (by omega) (by omega) (by omega) (by rw [hna]; omega) (by omega) (by omega) (by rw [hna, hnb, hM, hR]; exact hd) (by rw [hna, hnb, hM, hR]; exact hy) (by omega) (by omega)
                have hC : compE t l n = (r, 0) := by unfold compE; rw [h1, h2, hr]; rfl
                first
                | (exfalso; rw [hCe] at hC; exact absurd (show (4 : Int) = 0 from congrArg Prod.snd hC) (by decide))
                | (obtain ⟨r1, r2, r3, r4⟩ := comp_closes (by omega) h1 hr
                   obtain ⟨ra, rb, rx, ry⟩ := r
                   rw [hCe] at hC
                   simp only [Prod.mk.injEq, Pr.mk.injEq, and_true] at hC
                   obtain ⟨rfl, rfl, rfl, rfl⟩ := hC
                   simp only [holP, absI, befP] at r1 r2 r3 hb
                   have hB := before_not (h := max Z (-Z) + max y (-y)) (i := (I : Int)) (k := (K : Int)) (x := Z) (g := max cx (-cx) + max cy (-cy)) (a := ca) (b := cb) (y := cx) hb
                   clear hb
                   have x1 : IntKind.i64.wrap (0 - cx) = -cx := by rw [wrap_in (by omega) (by omega)]; omega
                   have x2 : IntKind.i64.wrap (0 - cy) = -cy := by rw [wrap_in (by omega) (by omega)]; omega
                   have x3 : IntKind.i64.wrap (max cx (-cx) + max cy (-cy)) = max cx (-cx) + max cy (-cy) := wrap_in (by omega) (by omega)
                   have x4 : IntKind.i64.wrap (0 - Z) = -Z := by rw [wrap_in (by omega) (by omega)]; omega
                   have x5 : IntKind.i64.wrap (0 - y) = -y := by rw [wrap_in (by omega) (by omega)]; omega
                   have x6 : IntKind.i64.wrap (max Z (-Z) + max y (-y)) = max Z (-Z) + max y (-y) := wrap_in (by omega) (by omega)
                   simp (decide := true) (maxSteps := 4000000) only [go_sem, Nat.reduceAdd, Nat.reduceSub, Nat.reduceMul, Nat.reduceDiv, Nat.reduceMod, Nat.reduceLT, Nat.reduceLeDiff, Nat.reduceEqDiff, Nat.reduceBEq, Nat.reduceBNe, Nat.reduceGT, Int.reduceAdd, Int.reduceSub, Int.reduceMul, Int.reduceNeg, Int.reduceLT, Int.reduceLE, Int.reduceEq, Int.reduceNe, Int.reduceBEq, Int.reduceBNe, Int.reduceToNat, Int.reduceGT, Int.reduceGE, ↓reduceIte, decide_true, decide_false, eq_self, Nat.mul_one, Nat.zero_mul, Nat.one_mul, Int.le_refl, Nat.le_refl, Int.cast_ofNat_Int, hlt, w1, w2, wZ, v1, v2, v3, hM, w3, cN, cD, e1, hy, hY, x1, x2, x3, x4, x5, x6, unI4, List.length_cons, List.length_nil, hB]
                   refine hQ1 _ _ ?_
                   simp (decide := true) (maxSteps := 4000000) only [go_sem, Nat.reduceAdd, Nat.reduceSub, Nat.reduceMul, Nat.reduceDiv, Nat.reduceMod, Nat.reduceLT, Nat.reduceLeDiff, Nat.reduceEqDiff, Nat.reduceBEq, Nat.reduceBNe, Nat.reduceGT, Int.reduceAdd, Int.reduceSub, Int.reduceMul, Int.reduceNeg, Int.reduceLT, Int.reduceLE, Int.reduceEq, Int.reduceNe, Int.reduceBEq, Int.reduceBNe, Int.reduceToNat, Int.reduceGT, Int.reduceGE, ↓reduceIte, decide_true, decide_false, eq_self, Nat.mul_one, Nat.zero_mul, Nat.one_mul, Int.le_refl, Nat.le_refl, Int.cast_ofNat_Int])
            · have e1 : (R % M == 0) = false := beq_int_f hd
              simp (decide := true) (maxSteps := 4000000) only [go_sem, Nat.reduceAdd, Nat.reduceSub, Nat.reduceMul, Nat.reduceDiv, Nat.reduceMod, Nat.reduceLT, Nat.reduceLeDiff, Nat.reduceEqDiff, Nat.reduceBEq, Nat.reduceBNe, Nat.reduceGT, Int.reduceAdd, Int.reduceSub, Int.reduceMul, Int.reduceNeg, Int.reduceLT, Int.reduceLE, Int.reduceEq, Int.reduceNe, Int.reduceBEq, Int.reduceBNe, Int.reduceToNat, Int.reduceGT, Int.reduceGE, ↓reduceIte, decide_true, decide_false, eq_self, Nat.mul_one, Nat.zero_mul, Nat.one_mul, Int.le_refl, Nat.le_refl, Int.cast_ofNat_Int, hlt, w1, w2, wZ, v1, v2, v3, hM, w3, cN, cD, e1]
              refine hI1' _ ⟨s + 1, by omega⟩ (by simp only; omega) ?_
              simp (decide := true) (maxSteps := 4000000) only [go_sem, Nat.reduceAdd, Nat.reduceSub, Nat.reduceMul, Nat.reduceDiv, Nat.reduceMod, Nat.reduceLT, Nat.reduceLeDiff, Nat.reduceEqDiff, Nat.reduceBEq, Nat.reduceBNe, Nat.reduceGT, Int.reduceAdd, Int.reduceSub, Int.reduceMul, Int.reduceNeg, Int.reduceLT, Int.reduceLE, Int.reduceEq, Int.reduceNe, Int.reduceBEq, Int.reduceBNe, Int.reduceToNat, Int.reduceGT, Int.reduceGE, ↓reduceIte, decide_true, decide_false, eq_self, Nat.mul_one, Nat.zero_mul, Nat.one_mul, Int.le_refl, Nat.le_refl, Int.cast_ofNat_Int, hs1]
          · simp (decide := true) (maxSteps := 4000000) only [go_sem, Nat.reduceAdd, Nat.reduceSub, Nat.reduceMul, Nat.reduceDiv, Nat.reduceMod, Nat.reduceLT, Nat.reduceLeDiff, Nat.reduceEqDiff, Nat.reduceBEq, Nat.reduceBNe, Nat.reduceGT, Int.reduceAdd, Int.reduceSub, Int.reduceMul, Int.reduceNeg, Int.reduceLT, Int.reduceLE, Int.reduceEq, Int.reduceNe, Int.reduceBEq, Int.reduceBNe, Int.reduceToNat, Int.reduceGT, Int.reduceGE, ↓reduceIte, decide_true, decide_false, eq_self, Nat.mul_one, Nat.zero_mul, Nat.one_mul, Int.le_refl, Nat.le_refl, Int.cast_ofNat_Int, hlt]
            refine hQ1 _ _ ?_
            simp (decide := true) (maxSteps := 4000000) only [go_sem, Nat.reduceAdd, Nat.reduceSub, Nat.reduceMul, Nat.reduceDiv, Nat.reduceMod, Nat.reduceLT, Nat.reduceLeDiff, Nat.reduceEqDiff, Nat.reduceBEq, Nat.reduceBNe, Nat.reduceGT, Int.reduceAdd, Int.reduceSub, Int.reduceMul, Int.reduceNeg, Int.reduceLT, Int.reduceLE, Int.reduceEq, Int.reduceNe, Int.reduceBEq, Int.reduceBNe, Int.reduceToNat, Int.reduceGT, Int.reduceGE, ↓reduceIte, decide_true, decide_false, eq_self, Nat.mul_one, Nat.zero_mul, Nat.one_mul, Int.le_refl, Nat.le_refl, Int.cast_ofNat_Int]
end Go.Proofs.YtnoahnbjdapieaaDoor

/- Part Io. -/
namespace Go.Proofs.YtnoahnbjdapieaaDoor
open Go.RowKit Go.Pm Go.Oc
set_option maxRecDepth 100000
set_option linter.unusedVariables false

/-- The package-level variable holds what the rows say. -/
theorem ix_glob {w : World} (h : laidMetH Tryd.prog [("octant/index.noTrain", Rows.laid_octant_index_noTrain)] w) : GlobOk (allF w) := by
  rw [MakeChecks.laidMetH_plain _ _ _ (by kernel_rfl)] at h
  have hr := glob_ints (P := Tryd.prog) (name := "octant/index.noTrain") (ns := [-1, -1, -1, -1]) (w := w) h (g := 0) (t := 45) (e := 3) (by kernel_rfl) (by kernel_rfl) Tryd.underlying45 (by kernel_rfl) (by kernel_rfl) (by kernel_rfl) (by kernel_rfl) (by kernel_rfl)
  intro g cs hc
  match g, hc with
  | 0, hc =>
    have e : cs = [.int .i64 (-1), .int .i64 (-1), .int .i64 (-1), .int .i64 (-1)] := (Option.some.inj (show some _ = some cs from hc)).symm
    rw [e]; exact hr
  | g + 1, hc => cases hc
/-- The door's own heap meets it. -/
theorem ix_met (os : Os) (args : Array Value) : laidMetH Tryd.prog [("octant/index.noTrain", Rows.laid_octant_index_noTrain)] ((World.doorLaid Tryd.prog 14 os).forCall (fun _ _ => 0) ⟨#[], args, []⟩).memory :=
  laidMetH_of_parts3 (fuel := 8) (laidMet_of_run' 8 (by kernel_rfl) (by kernel_rfl)) (by kernel_rfl) (by kernel_rfl)
theorem ix_shaped (os : Os) (args : Array Value) : ((World.doorLaid Tryd.prog 14 os).forCall (fun _ _ => 0) ⟨#[], args, []⟩).Shaped Tryd.prog := World.shaped_of_RefB (by kernel_rfl) (by kernel_rfl)
end Go.Proofs.YtnoahnbjdapieaaDoor
