/- What the claim leans on, text 6. -/
import Derived.Test.YtnoahnbjdapieaaDoorTie
import Derived.Test.YtnoahnbjdapieaaDoorCards
import Derived.LaidMore
import Derived.SevenTiedAt
import Derived.Test.YtnoahnbjdapieaaDoorC5
set_option linter.unusedSimpArgs false
set_option linter.unusedVariables false

/- Part Im0. -/
namespace Go.Proofs.YtnoahnbjdapieaaDoor
open Go.RowKit Go.Pm Go.Oc
set_option maxRecDepth 100000
set_option linter.unusedVariables false
set_option maxHeartbeats 4000000

theorem lSound_c (t : Int) {l : List Int} {s : TV} (hl : IsRow ic s l) (hll : l.length ≤ 17592186044415) : PCalls Tryd.prog 31 [.agg [.int .i64 t, s]] (.bool (headOk t l)) := by
  have rI := rowI_is hl
  unfold rowL at rI
  refine pcalls_by Tryd.mixes spK3_ok (fn := Tryd.f31) Tryd.func31 rfl (by kernel_rfl) (by show 1 ≤ _; decide) ?_
  rcases hl with ⟨rfl, rfl⟩ | ⟨f, rfl⟩
  · have h0 : headOk t [] = false := by simp [headOk, inB]
    have e0 : unI [] = some [] := rfl
    simp (decide := true) (maxSteps := 4000000) only [go_sem, Nat.reduceAdd, Nat.reduceSub, Nat.reduceMul, Nat.reduceDiv, Nat.reduceMod, Nat.reduceLT, Nat.reduceLeDiff, Nat.reduceEqDiff, Nat.reduceBEq, Nat.reduceBNe, Nat.reduceGT, Int.reduceAdd, Int.reduceSub, Int.reduceMul, Int.reduceNeg, Int.reduceLT, Int.reduceLE, Int.reduceEq, Int.reduceNe, Int.reduceBEq, Int.reduceBNe, Int.reduceToNat, Int.reduceGT, Int.reduceGE, ↓reduceIte, decide_true, decide_false, eq_self, Nat.mul_one, Nat.zero_mul, Nat.one_mul, Int.le_refl, Nat.le_refl, Int.cast_ofNat_Int, Tryd.f31, e0, h0, List.length_nil]
  · rw [ic_ints] at rI ⊢
    simp only [unI_eq, if_true] at rI
    cases h0 : headOk t l with
    | false => simp (decide := true) (maxSteps := 4000000) only [go_sem, Nat.reduceAdd, Nat.reduceSub, Nat.reduceMul, Nat.reduceDiv, Nat.reduceMod, Nat.reduceLT, Nat.reduceLeDiff, Nat.reduceEqDiff, Nat.reduceBEq, Nat.reduceBNe, Nat.reduceGT, Int.reduceAdd, Int.reduceSub, Int.reduceMul, Int.reduceNeg, Int.reduceLT, Int.reduceLE, Int.reduceEq, Int.reduceNe, Int.reduceBEq, Int.reduceBNe, Int.reduceToNat, Int.reduceGT, Int.reduceGE, ↓reduceIte, decide_true, decide_false, eq_self, Nat.mul_one, Nat.zero_mul, Nat.one_mul, Int.le_refl, Nat.le_refl, Int.cast_ofNat_Int, Tryd.f31, rI, unI_eq, hll, h0]
    | true =>
      have hh := headOk_iff.1 h0
      have h1 : inB (l.length : Int) 1 12 = true := inB_iff.2 (by omega)
      have h2 : inB t 1 400 = true := inB_iff.2 (by omega)
      simp (decide := true) (maxSteps := 4000000) only [go_sem, Nat.reduceAdd, Nat.reduceSub, Nat.reduceMul, Nat.reduceDiv, Nat.reduceMod, Nat.reduceLT, Nat.reduceLeDiff, Nat.reduceEqDiff, Nat.reduceBEq, Nat.reduceBNe, Nat.reduceGT, Int.reduceAdd, Int.reduceSub, Int.reduceMul, Int.reduceNeg, Int.reduceLT, Int.reduceLE, Int.reduceEq, Int.reduceNe, Int.reduceBEq, Int.reduceBNe, Int.reduceToNat, Int.reduceGT, Int.reduceGE, ↓reduceIte, decide_true, decide_false, eq_self, Nat.mul_one, Nat.zero_mul, Nat.one_mul, Int.le_refl, Nat.le_refl, Int.cast_ofNat_Int, Tryd.f31, rI, unI_eq, hll, h0, h1, h2]
noncomputable def xSound : List TV → Option TV
  | [.agg [.int .i64 t, s]] => match rowL unI s with
    | some l => if l.length ≤ 17592186044415 then some (.bool (headOk t l)) else none
    | none => none
  | _ => none
theorem xSound_ok : ∀ xs r, xSound xs = some r → PCalls Tryd.prog 31 xs r := by
  intro xs r h
  unfold xSound at h
  split at h
  · split at h
    · rename_i l hl
      have hl := rowL_some (un := unI) rfl (@unI_some) hl
      split at h
      · rename_i hc; cases h; exact lSound_c _ hl hc
      · cases h
    · cases h
  · cases h
attribute [go_sem] xSound
theorem lMoved_c (t : Int) {l : List Int} (f : Bool) (hll : l.length ≤ 12) {c k h : Int} (hc : 0 ≤ c ∧ c < l.length) (hk : 0 ≤ k ∧ k ≤ 400) (hh : 0 ≤ h ∧ h ≤ nthI l c - 1) (hn : nthI l c ≤ 200) :
    PCalls Tryd.prog 33 [.agg [.int .i64 t, .sl (ints l) l.length f], .agg [.int .i64 c, .int .i64 k, .int .i64 h]] (.int .i64 (k * nthI l c + h)) := by
  obtain ⟨C, hC⟩ := Int.eq_ofNat_of_zero_le hc.1
  subst hC
  obtain ⟨x, hx⟩ := get_lt hc.2
  have hd := ints_at hx
  rw [Nat.mul_one] at hd
  have hnx := nthI_at hx
  rw [hnx] at hh hn ⊢
  have hlc := hc.2
  have wl : IntKind.i64.wrap ((l.length : Int) - 1) = (l.length : Int) - 1 := wrap_in (by omega) (by omega)
  have b1 : inB C 0 ((l.length : Int) - 1) = true := inB_iff.2 (by omega)
  have b2 : inB k 0 400 = true := inB_iff.2 (by omega)
  have wx : IntKind.i64.wrap (x - 1) = x - 1 := wrap_in (by omega) (by omega)
  have b3 : inB h 0 (x - 1) = true := inB_iff.2 (by omega)
  have m := mulB (a := k) (b := x) (A := 400) (B := 200) hk.1 (by omega) hk.2 hn
  have w1 : IntKind.i64.wrap (k * x) = k * x := wrap_in (by omega) (by omega)
  have w2 : IntKind.i64.wrap (k * x + h) = k * x + h := wrap_in (by omega) (by omega)
  refine pcalls_by Tryd.mixes spK1_ok (fn := Tryd.f33) Tryd.func33 rfl (by kernel_rfl) (by show 2 ≤ _; decide) ?_
  simp (decide := true) (maxSteps := 4000000) only [go_sem, Nat.reduceAdd, Nat.reduceSub, Nat.reduceMul, Nat.reduceDiv, Nat.reduceMod, Nat.reduceLT, Nat.reduceLeDiff, Nat.reduceEqDiff, Nat.reduceBEq, Nat.reduceBNe, Nat.reduceGT, Int.reduceAdd, Int.reduceSub, Int.reduceMul, Int.reduceNeg, Int.reduceLT, Int.reduceLE, Int.reduceEq, Int.reduceNe, Int.reduceBEq, Int.reduceBNe, Int.reduceToNat, Int.reduceGT, Int.reduceGE, ↓reduceIte, decide_true, decide_false, eq_self, Nat.mul_one, Nat.zero_mul, Nat.one_mul, Int.le_refl, Nat.le_refl, Int.cast_ofNat_Int, Tryd.f33, wl, b1, b2, hlc, hd, wx, b3, w1, w2]
noncomputable def xMoved : List TV → Option TV
  | [.agg [.int .i64 t, .sl cs m f], .agg [.int .i64 c, .int .i64 k, .int .i64 h]] => match unI cs with
    | some l => if m = l.length ∧ l.length ≤ 12 ∧ (0 ≤ c ∧ c < l.length) ∧ (0 ≤ k ∧ k ≤ 400) ∧ (0 ≤ h ∧ h ≤ nthI l c - 1) ∧ nthI l c ≤ 200 then some (.int .i64 (k * nthI l c + h)) else none
    | none => none
  | _ => none
theorem xMoved_ok : ∀ xs r, xMoved xs = some r → PCalls Tryd.prog 33 xs r := by
  intro xs r h
  unfold xMoved at h
  split at h
  · rename_i t cs m f c k hh
    split at h
    · rename_i l hl
      split at h
      · rename_i hc; cases h
        obtain ⟨rfl, h0, h1, h2, h3, h4⟩ := hc
        have e := unI_some hl
        rw [ic_ints] at e
        subst e
        exact lMoved_c t f h0 h1 h2 h3 h4
      · cases h
    · cases h
  · cases h
attribute [go_sem] xMoved
theorem lRatio_c {st : List Int} (full : Bool) (hok : stockOk1 st = true) (a b c d : Int) : PCalls Tryd.prog 39 [.sl (ints st) st.length full, .agg [.int .i64 a, .int .i64 b, .int .i64 c, .int .i64 d]]
    (.tup [.int .i64 (ratioP st ⟨a, b, c, d⟩).1, .int .i64 (ratioP st ⟨a, b, c, d⟩).2.1, .bool (ratioP st ⟨a, b, c, d⟩).2.2]) := by
  have hok' := stockOk1_iff.1 hok
  have hb : ∀ {k : Nat} {x : Int}, st[k]? = some x → 0 ≤ x ∧ x ≤ 200 := fun h => by have := hok'.2 _ (List.mem_of_getElem? h); omega
  have wl : IntKind.i64.wrap ((st.length : Int) - 1) = (st.length : Int) - 1 := wrap_in (by omega) (by omega)
  have op : ∀ {x : Int}, inB x 0 ((st.length : Int) - 1) = true → ∃ (k : Nat) (y : Int), x = k ∧ (k : Int) < st.length ∧ (ints st).drop k = .int .i64 y :: ints (st.drop (k + 1)) ∧ nthI st k = y ∧ 0 ≤ y ∧ y ≤ 200 := fun {x} h => by
    have h := inB_iff.1 h
    obtain ⟨k, rfl⟩ := Int.eq_ofNat_of_zero_le h.1
    have hlt : (k : Int) < st.length := by omega
    obtain ⟨y, hy⟩ := get_lt hlt
    have hd := ints_at hy
    rw [Nat.mul_one] at hd
    exact ⟨k, y, rfl, hlt, hd, nthI_at hy, hb hy⟩
  refine pcalls_by Tryd.mixes spK1_ok (fn := Tryd.f39) Tryd.func39 rfl (by kernel_rfl) (by show 2 ≤ _; decide) ?_
  cases h1 : inB a 0 ((st.length : Int) - 1) with
  | false =>
    have hR : ratioP st ⟨a, b, c, d⟩ = (0, 0, false) := by simp [ratioP, h1]
    simp (decide := true) (maxSteps := 4000000) only [go_sem, Nat.reduceAdd, Nat.reduceSub, Nat.reduceMul, Nat.reduceDiv, Nat.reduceMod, Nat.reduceLT, Nat.reduceLeDiff, Nat.reduceEqDiff, Nat.reduceBEq, Nat.reduceBNe, Nat.reduceGT, Int.reduceAdd, Int.reduceSub, Int.reduceMul, Int.reduceNeg, Int.reduceLT, Int.reduceLE, Int.reduceEq, Int.reduceNe, Int.reduceBEq, Int.reduceBNe, Int.reduceToNat, Int.reduceGT, Int.reduceGE, ↓reduceIte, decide_true, decide_false, eq_self, Nat.mul_one, Nat.zero_mul, Nat.one_mul, Int.le_refl, Nat.le_refl, Int.cast_ofNat_Int, Tryd.f39, wl, h1, hR]
  | true =>
  cases h2 : inB b 0 ((st.length : Int) - 1) with
  | false =>
    have hR : ratioP st ⟨a, b, c, d⟩ = (0, 0, false) := by simp [ratioP, h1, h2]
    simp (decide := true) (maxSteps := 4000000) only [go_sem, Nat.reduceAdd, Nat.reduceSub, Nat.reduceMul, Nat.reduceDiv, Nat.reduceMod, Nat.reduceLT, Nat.reduceLeDiff, Nat.reduceEqDiff, Nat.reduceBEq, Nat.reduceBNe, Nat.reduceGT, Int.reduceAdd, Int.reduceSub, Int.reduceMul, Int.reduceNeg, Int.reduceLT, Int.reduceLE, Int.reduceEq, Int.reduceNe, Int.reduceBEq, Int.reduceBNe, Int.reduceToNat, Int.reduceGT, Int.reduceGE, ↓reduceIte, decide_true, decide_false, eq_self, Nat.mul_one, Nat.zero_mul, Nat.one_mul, Int.le_refl, Nat.le_refl, Int.cast_ofNat_Int, Tryd.f39, wl, h1, h2, hR]
  | true =>
  cases h3 : (a == b) with
  | true =>
    have hR : ratioP st ⟨a, b, c, d⟩ = (0, 0, false) := by simp [ratioP, h1, h2, h3]
    simp (decide := true) (maxSteps := 4000000) only [go_sem, Nat.reduceAdd, Nat.reduceSub, Nat.reduceMul, Nat.reduceDiv, Nat.reduceMod, Nat.reduceLT, Nat.reduceLeDiff, Nat.reduceEqDiff, Nat.reduceBEq, Nat.reduceBNe, Nat.reduceGT, Int.reduceAdd, Int.reduceSub, Int.reduceMul, Int.reduceNeg, Int.reduceLT, Int.reduceLE, Int.reduceEq, Int.reduceNe, Int.reduceBEq, Int.reduceBNe, Int.reduceToNat, Int.reduceGT, Int.reduceGE, ↓reduceIte, decide_true, decide_false, eq_self, Nat.mul_one, Nat.zero_mul, Nat.one_mul, Int.le_refl, Nat.le_refl, Int.cast_ofNat_Int, Tryd.f39, wl, h1, h2, h3, hR]
  | false =>
  obtain ⟨A, x, rfl, la, da, na, xa⟩ := op h1
  obtain ⟨B, y, rfl, lb, db, nb, yb⟩ := op h2
  cases h4 : (c == -1) with
  | true =>
    have hc : c = -1 := by simpa using h4
    have h6 : inB c 0 ((st.length : Int) - 1) = false := by rw [hc]; rfl
    cases h5 : (d == -1) with
    | true =>
      have hR : ratioP st ⟨A, B, c, d⟩ = (x, y, true) := by simp [ratioP, h1, h2, h3, h4, h5, na, nb]
      simp (decide := true) (maxSteps := 4000000) only [go_sem, Nat.reduceAdd, Nat.reduceSub, Nat.reduceMul, Nat.reduceDiv, Nat.reduceMod, Nat.reduceLT, Nat.reduceLeDiff, Nat.reduceEqDiff, Nat.reduceBEq, Nat.reduceBNe, Nat.reduceGT, Int.reduceAdd, Int.reduceSub, Int.reduceMul, Int.reduceNeg, Int.reduceLT, Int.reduceLE, Int.reduceEq, Int.reduceNe, Int.reduceBEq, Int.reduceBNe, Int.reduceToNat, Int.reduceGT, Int.reduceGE, ↓reduceIte, decide_true, decide_false, eq_self, Nat.mul_one, Nat.zero_mul, Nat.one_mul, Int.le_refl, Nat.le_refl, Int.cast_ofNat_Int, Tryd.f39, wl, h1, h2, h3, h4, h5, la, da, lb, db, hR]
    | false =>
      have hR : ratioP st ⟨A, B, c, d⟩ = (0, 0, false) := by simp [ratioP, h1, h2, h3, h4, h5, h6]
      simp (decide := true) (maxSteps := 4000000) only [go_sem, Nat.reduceAdd, Nat.reduceSub, Nat.reduceMul, Nat.reduceDiv, Nat.reduceMod, Nat.reduceLT, Nat.reduceLeDiff, Nat.reduceEqDiff, Nat.reduceBEq, Nat.reduceBNe, Nat.reduceGT, Int.reduceAdd, Int.reduceSub, Int.reduceMul, Int.reduceNeg, Int.reduceLT, Int.reduceLE, Int.reduceEq, Int.reduceNe, Int.reduceBEq, Int.reduceBNe, Int.reduceToNat, Int.reduceGT, Int.reduceGE, ↓reduceIte, decide_true, decide_false, eq_self, Nat.mul_one, Nat.zero_mul, Nat.one_mul, Int.le_refl, Nat.le_refl, Int.cast_ofNat_Int, Tryd.f39, wl, h1, h2, h3, h4, h5, h6, hR]
  | false =>
  cases h6 : inB c 0 ((st.length : Int) - 1) with
  | false =>
    have hR : ratioP st ⟨A, B, c, d⟩ = (0, 0, false) := by simp [ratioP, h1, h2, h3, h4, h6]
    simp (decide := true) (maxSteps := 4000000) only [go_sem, Nat.reduceAdd, Nat.reduceSub, Nat.reduceMul, Nat.reduceDiv, Nat.reduceMod, Nat.reduceLT, Nat.reduceLeDiff, Nat.reduceEqDiff, Nat.reduceBEq, Nat.reduceBNe, Nat.reduceGT, Int.reduceAdd, Int.reduceSub, Int.reduceMul, Int.reduceNeg, Int.reduceLT, Int.reduceLE, Int.reduceEq, Int.reduceNe, Int.reduceBEq, Int.reduceBNe, Int.reduceToNat, Int.reduceGT, Int.reduceGE, ↓reduceIte, decide_true, decide_false, eq_self, Nat.mul_one, Nat.zero_mul, Nat.one_mul, Int.le_refl, Nat.le_refl, Int.cast_ofNat_Int, Tryd.f39, wl, h1, h2, h3, h4, h6, hR]
  | true =>
  cases h7 : inB d 0 ((st.length : Int) - 1) with
  | false =>
    have hR : ratioP st ⟨A, B, c, d⟩ = (0, 0, false) := by simp [ratioP, h1, h2, h3, h4, h6, h7]
    simp (decide := true) (maxSteps := 4000000) only [go_sem, Nat.reduceAdd, Nat.reduceSub, Nat.reduceMul, Nat.reduceDiv, Nat.reduceMod, Nat.reduceLT, Nat.reduceLeDiff, Nat.reduceEqDiff, Nat.reduceBEq, Nat.reduceBNe, Nat.reduceGT, Int.reduceAdd, Int.reduceSub, Int.reduceMul, Int.reduceNeg, Int.reduceLT, Int.reduceLE, Int.reduceEq, Int.reduceNe, Int.reduceBEq, Int.reduceBNe, Int.reduceToNat, Int.reduceGT, Int.reduceGE, ↓reduceIte, decide_true, decide_false, eq_self, Nat.mul_one, Nat.zero_mul, Nat.one_mul, Int.le_refl, Nat.le_refl, Int.cast_ofNat_Int, Tryd.f39, wl, h1, h2, h3, h4, h6, h7, hR]
  | true =>
  cases h8 : (c == d) with
  | true =>
    have hR : ratioP st ⟨A, B, c, d⟩ = (0, 0, false) := by simp [ratioP, h1, h2, h3, h4, h6, h7, h8]
    simp (decide := true) (maxSteps := 4000000) only [go_sem, Nat.reduceAdd, Nat.reduceSub, Nat.reduceMul, Nat.reduceDiv, Nat.reduceMod, Nat.reduceLT, Nat.reduceLeDiff, Nat.reduceEqDiff, Nat.reduceBEq, Nat.reduceBNe, Nat.reduceGT, Int.reduceAdd, Int.reduceSub, Int.reduceMul, Int.reduceNeg, Int.reduceLT, Int.reduceLE, Int.reduceEq, Int.reduceNe, Int.reduceBEq, Int.reduceBNe, Int.reduceToNat, Int.reduceGT, Int.reduceGE, ↓reduceIte, decide_true, decide_false, eq_self, Nat.mul_one, Nat.zero_mul, Nat.one_mul, Int.le_refl, Nat.le_refl, Int.cast_ofNat_Int, Tryd.f39, wl, h1, h2, h3, h4, h6, h7, h8, hR]
  | false =>
  cases h9 : ((A : Int) == c) with
  | true =>
    have hR : ratioP st ⟨A, B, c, d⟩ = (0, 0, false) := by simp [ratioP, h1, h2, h3, h4, h6, h7, h8, h9]
    simp (decide := true) (maxSteps := 4000000) only [go_sem, Nat.reduceAdd, Nat.reduceSub, Nat.reduceMul, Nat.reduceDiv, Nat.reduceMod, Nat.reduceLT, Nat.reduceLeDiff, Nat.reduceEqDiff, Nat.reduceBEq, Nat.reduceBNe, Nat.reduceGT, Int.reduceAdd, Int.reduceSub, Int.reduceMul, Int.reduceNeg, Int.reduceLT, Int.reduceLE, Int.reduceEq, Int.reduceNe, Int.reduceBEq, Int.reduceBNe, Int.reduceToNat, Int.reduceGT, Int.reduceGE, ↓reduceIte, decide_true, decide_false, eq_self, Nat.mul_one, Nat.zero_mul, Nat.one_mul, Int.le_refl, Nat.le_refl, Int.cast_ofNat_Int, Tryd.f39, wl, h1, h2, h3, h4, h6, h7, h8, h9, hR]
  | false =>
  cases h10 : ((A : Int) == d) with
  | true =>
    have hR : ratioP st ⟨A, B, c, d⟩ = (0, 0, false) := by simp [ratioP, h1, h2, h3, h4, h6, h7, h8, h9, h10]
    simp (decide := true) (maxSteps := 4000000) only [go_sem, Nat.reduceAdd, Nat.reduceSub, Nat.reduceMul, Nat.reduceDiv, Nat.reduceMod, Nat.reduceLT, Nat.reduceLeDiff, Nat.reduceEqDiff, Nat.reduceBEq, Nat.reduceBNe, Nat.reduceGT, Int.reduceAdd, Int.reduceSub, Int.reduceMul, Int.reduceNeg, Int.reduceLT, Int.reduceLE, Int.reduceEq, Int.reduceNe, Int.reduceBEq, Int.reduceBNe, Int.reduceToNat, Int.reduceGT, Int.reduceGE, ↓reduceIte, decide_true, decide_false, eq_self, Nat.mul_one, Nat.zero_mul, Nat.one_mul, Int.le_refl, Nat.le_refl, Int.cast_ofNat_Int, Tryd.f39, wl, h1, h2, h3, h4, h6, h7, h8, h9, h10, hR]
  | false =>
  cases h11 : ((B : Int) == c) with
  | true =>
    have hR : ratioP st ⟨A, B, c, d⟩ = (0, 0, false) := by simp [ratioP, h1, h2, h3, h4, h6, h7, h8, h9, h10, h11]
    simp (decide := true) (maxSteps := 4000000) only [go_sem, Nat.reduceAdd, Nat.reduceSub, Nat.reduceMul, Nat.reduceDiv, Nat.reduceMod, Nat.reduceLT, Nat.reduceLeDiff, Nat.reduceEqDiff, Nat.reduceBEq, Nat.reduceBNe, Nat.reduceGT, Int.reduceAdd, Int.reduceSub, Int.reduceMul, Int.reduceNeg, Int.reduceLT, Int.reduceLE, Int.reduceEq, Int.reduceNe, Int.reduceBEq, Int.reduceBNe, Int.reduceToNat, Int.reduceGT, Int.reduceGE, ↓reduceIte, decide_true, decide_false, eq_self, Nat.mul_one, Nat.zero_mul, Nat.one_mul, Int.le_refl, Nat.le_refl, Int.cast_ofNat_Int, Tryd.f39, wl, h1, h2, h3, h4, h6, h7, h8, h9, h10, h11, hR]
  | false =>
  cases h12 : ((B : Int) == d) with
  | true =>
    have hR : ratioP st ⟨A, B, c, d⟩ = (0, 0, false) := by simp [ratioP, h1, h2, h3, h4, h6, h7, h8, h9, h10, h11, h12]
    simp (decide := true) (maxSteps := 4000000) only [go_sem, Nat.reduceAdd, Nat.reduceSub, Nat.reduceMul, Nat.reduceDiv, Nat.reduceMod, Nat.reduceLT, Nat.reduceLeDiff, Nat.reduceEqDiff, Nat.reduceBEq, Nat.reduceBNe, Nat.reduceGT, Int.reduceAdd, Int.reduceSub, Int.reduceMul, Int.reduceNeg, Int.reduceLT, Int.reduceLE, Int.reduceEq, Int.reduceNe, Int.reduceBEq, Int.reduceBNe, Int.reduceToNat, Int.reduceGT, Int.reduceGE, ↓reduceIte, decide_true, decide_false, eq_self, Nat.mul_one, Nat.zero_mul, Nat.one_mul, Int.le_refl, Nat.le_refl, Int.cast_ofNat_Int, Tryd.f39, wl, h1, h2, h3, h4, h6, h7, h8, h9, h10, h11, h12, hR]
  | false =>
  have hR : ratioP st ⟨A, B, c, d⟩ = (nthI st A * nthI st c, nthI st B * nthI st d, true) := by simp [ratioP, h1, h2, h3, h4, h6, h7, h8, h9, h10, h11, h12]
  obtain ⟨C, z, rfl, lc, dc, nc, zc⟩ := op h6
  obtain ⟨D, v, rfl, ld, dd, nd, vd⟩ := op h7
  rw [na, nb, nc, nd] at hR
  have m1 := mulB (a := x) (b := z) (A := 200) (B := 200) xa.1 zc.1 xa.2 zc.2
  have m2 := mulB (a := y) (b := v) (A := 200) (B := 200) yb.1 vd.1 yb.2 vd.2
  have w1 : IntKind.i64.wrap (x * z) = x * z := wrap_in (by omega) (by omega)
  have w2 : IntKind.i64.wrap (y * v) = y * v := wrap_in (by omega) (by omega)
  simp (decide := true) (maxSteps := 4000000) only [go_sem, Nat.reduceAdd, Nat.reduceSub, Nat.reduceMul, Nat.reduceDiv, Nat.reduceMod, Nat.reduceLT, Nat.reduceLeDiff, Nat.reduceEqDiff, Nat.reduceBEq, Nat.reduceBNe, Nat.reduceGT, Int.reduceAdd, Int.reduceSub, Int.reduceMul, Int.reduceNeg, Int.reduceLT, Int.reduceLE, Int.reduceEq, Int.reduceNe, Int.reduceBEq, Int.reduceBNe, Int.reduceToNat, Int.reduceGT, Int.reduceGE, ↓reduceIte, decide_true, decide_false, eq_self, Nat.mul_one, Nat.zero_mul, Nat.one_mul, Int.le_refl, Nat.le_refl, Int.cast_ofNat_Int, Tryd.f39, wl, h1, h2, h3, h4, h6, h7, h8, h9, h10, h11, h12, la, da, lb, db, lc, dc, ld, dd, w1, w2, hR]
noncomputable def xRatio : List TV → Option TV
  | [.sl cs n full, .agg [.int .i64 a, .int .i64 b, .int .i64 c, .int .i64 d]] => match unI cs with
    | some st => if n = st.length ∧ stockOk1 st = true then some (.tup [.int .i64 (ratioP st ⟨a, b, c, d⟩).1, .int .i64 (ratioP st ⟨a, b, c, d⟩).2.1, .bool (ratioP st ⟨a, b, c, d⟩).2.2]) else none
    | none => none
  | _ => none
theorem xRatio_ok : ∀ xs r, xRatio xs = some r → PCalls Tryd.prog 39 xs r := by
  intro xs r h
  unfold xRatio at h
  split at h
  · rename_i cs n full a b c d
    split at h
    · rename_i st hl
      split at h
      · rename_i hc; cases h
        obtain ⟨rfl, h0⟩ := hc
        have e := unI_some hl
        rw [ic_ints] at e
        subst e
        exact lRatio_c full h0 a b c d
      · cases h
    · cases h
  · cases h
attribute [go_sem] xRatio
noncomputable def spM1 : Pm.Spec := ((spK3.one 31 xSound).one 33 xMoved).one 39 xRatio
@[go_sem] theorem spM1_p (f : FuncId) (xs : List TV) : spM1.p f xs = Pm.Spec.p (((spK3.one 31 xSound).one 33 xMoved).one 39 xRatio) f xs := rfl
@[go_sem] theorem spM1_h (f : FuncId) (ps : List PV) (hl : List PO) : spM1.h f ps hl = Pm.Spec.h (((spK3.one 31 xSound).one 33 xMoved).one 39 xRatio) f ps hl := rfl
@[go_sem] theorem spM1_fz (f : FuncId) : spM1.fz f = Pm.Spec.fz (((spK3.one 31 xSound).one 33 xMoved).one 39 xRatio) f := rfl
@[go_sem] theorem spM1_fr (f : FuncId) : spM1.fr f = Pm.Spec.fr (((spK3.one 31 xSound).one 33 xMoved).one 39 xRatio) f := rfl
@[go_sem] theorem spM1_mu (t : TypeId) : spM1.mu t = Pm.Spec.mu (((spK3.one 31 xSound).one 33 xMoved).one 39 xRatio) t := rfl
theorem spM1_ok : SpecOk Tryd.prog spM1 := Spec.one_ok xRatio_ok (Spec.one_ok xMoved_ok (Spec.one_ok xSound_ok spK3_ok))
end Go.Proofs.YtnoahnbjdapieaaDoor

/- Part Io. -/
namespace Go.Proofs.YtnoahnbjdapieaaDoor
open Go.RowKit Go.Pm Go.Oc
set_option maxRecDepth 100000
set_option linter.unusedVariables false

/-- The package-level variable holds what the rows say. -/
theorem ix_glob {w : World} (h : laidMetH Tryd.prog [("octant/index.noTrain", Rows.laid_octant_index_noTrain)] w) : GlobOk (allF w) := by
  rw [MakeChecks.laidMetH_plain _ _ _ (by kernel_rfl)] at h
  have hr := glob_ints (P := Tryd.prog) (name := "octant/index.noTrain") (ns := [-1, -1, -1, -1]) (w := w) h (g := 0) (t := 45) (e := 3) (by kernel_rfl) (by kernel_rfl) Tryd.underlying45 (by kernel_rfl) (by kernel_rfl) (by kernel_rfl) (by kernel_rfl) (by kernel_rfl)
  intro g cs hc
  match g, hc with
  | 0, hc =>
    have e : cs = [.int .i64 (-1), .int .i64 (-1), .int .i64 (-1), .int .i64 (-1)] := (Option.some.inj (show some _ = some cs from hc)).symm
    rw [e]; exact hr
  | g + 1, hc => cases hc
/-- The door's own heap meets it. -/
theorem ix_met (os : Os) (args : Array Value) : laidMetH Tryd.prog [("octant/index.noTrain", Rows.laid_octant_index_noTrain)] ((World.doorLaid Tryd.prog 14 os).forCall (fun _ _ => 0) ⟨#[], args, []⟩).memory :=
  laidMetH_of_parts3 (fuel := 8) (laidMet_of_run' 8 (by kernel_rfl) (by kernel_rfl)) (by kernel_rfl) (by kernel_rfl)
theorem ix_shaped (os : Os) (args : Array Value) : ((World.doorLaid Tryd.prog 14 os).forCall (fun _ _ => 0) ⟨#[], args, []⟩).Shaped Tryd.prog := World.shaped_of_RefB (by kernel_rfl) (by kernel_rfl)
end Go.Proofs.YtnoahnbjdapieaaDoor

/- Part Is. -/
namespace Go.Oc
open Go Go.Pm
set_option maxRecDepth 100000
/-- The circles that are written before the last look. -/
def insF (more : Int) : Int → List Int → List Int
  | _, [] => []
  | a, x :: l => (if x > more ∧ a < more then [more] else []) ++ x :: insF more x l
theorem insC_F (more : Int) : ∀ (a : Int) (l : List Int), insC more a l = insF more a l ++ if l.getLast?.getD a < more then [more] else []
  | a, [] => rfl
  | a, x :: l => by
    unfold insC insF
    rw [insC_F more x l, List.getLast?_cons]
    simp
theorem insF_snoc (more : Int) (y : Int) : ∀ (a : Int) (l : List Int), insF more a (l ++ [y]) = insF more a l ++ ((if y > more ∧ l.getLast?.getD a < more then [more] else []) ++ [y])
  | a, [] => by simp [insF]
  | a, x :: l => by
    rw [List.cons_append]
    unfold insF
    rw [insF_snoc more y x l, List.getLast?_cons]
    simp
theorem insF_len (more : Int) : ∀ (a : Int) (l : List Int), (insF more a l).length ≤ 2 * l.length
  | a, [] => by simp [insF]
  | a, x :: l => by
    have := insF_len more x l
    unfold insF
    split <;> simp <;> omega
def insTo (more : Int) (l : List Int) (k : Nat) : List Int := insF more 1 (l.take k)
theorem insTo_len (more : Int) (l : List Int) {k : Nat} (hk : k ≤ l.length) : (insTo more l k).length ≤ 2 * l.length := by
  have := insF_len more 1 (l.take k)
  unfold insTo
  simp at this; omega
theorem insTo_succ (more : Int) {l : List Int} {k : Nat} {x : Int} (h : l[k]? = some x) : insTo more l (k + 1) = insTo more l k ++ ((if x > more ∧ lastTo l k < more then [more] else []) ++ [x]) := by
  unfold insTo
  rw [take_snoc h, insF_snoc, last_at h]
theorem insTo_all (more : Int) {l : List Int} (h : 0 < l.length) : insC more 1 l = insTo more l l.length ++ if nthI l ((l.length : Int) - 1) < more then [more] else [] := by
  obtain ⟨j, hj⟩ : ∃ j, l.length = j + 1 := ⟨l.length - 1, by omega⟩
  have hx : l[j]? = some l[j] := List.getElem?_eq_getElem (by omega)
  have e : l.getLast?.getD 1 = nthI l ((l.length : Int) - 1) := by
    rw [List.getLast?_eq_getElem?, hj, Nat.add_sub_cancel, hx, show (((j + 1 : Nat) : Int) - 1) = (j : Int) by omega, nthI_at hx]; rfl
  rw [insC_F, e]
  unfold insTo
  rw [List.take_length]
theorem hmax {o : Pr} : max o.x (-o.x) + max o.y (-o.y) = holP o := rfl
end Go.Oc
namespace Go.Proofs.YtnoahnbjdapieaaDoor
open Go.RowKit Go.Pm Go.Oc
set_option maxRecDepth 100000
set_option linter.unusedVariables false
set_option maxHeartbeats 8000000

theorem IndexMore_c (t : Int) {l : List Int} {s : TV} (hl : IsRow ic s l) (hll : l.length ≤ 17592186044415) (m0 n : Int) : PCalls Tryd.prog 10 [.agg [.int .i64 t, s], .int .i64 m0, .int .i64 n] (.bool true) := by
  have rI := rowI_is hl
  unfold rowL at rI
  have e0 : unI [] = some [] := rfl
  refine pcalls_by Tryd.mixes spM1_ok (fn := Tryd.f10) Tryd.func10 rfl (by kernel_rfl) (by show 3 ≤ _; decide) ?_
  cases h1 : headOk t l with
  | false =>
    rcases hl with ⟨rfl, rfl⟩ | ⟨f, rfl⟩
    · simp only [e0] at rI
      simp (decide := true) (maxSteps := 4000000) only [go_sem, Nat.reduceAdd, Nat.reduceSub, Nat.reduceMul, Nat.reduceDiv, Nat.reduceMod, Nat.reduceLT, Nat.reduceLeDiff, Nat.reduceEqDiff, Nat.reduceBEq, Nat.reduceBNe, Nat.reduceGT, Int.reduceAdd, Int.reduceSub, Int.reduceMul, Int.reduceNeg, Int.reduceLT, Int.reduceLE, Int.reduceEq, Int.reduceNe, Int.reduceBEq, Int.reduceBNe, Int.reduceToNat, Int.reduceGT, Int.reduceGE, ↓reduceIte, decide_true, decide_false, eq_self, Nat.mul_one, Nat.zero_mul, Nat.one_mul, Int.le_refl, Nat.le_refl, Int.cast_ofNat_Int, Tryd.f10, e0, List.length_nil, h1]
    · simp (decide := true) (maxSteps := 4000000) only [go_sem, Nat.reduceAdd, Nat.reduceSub, Nat.reduceMul, Nat.reduceDiv, Nat.reduceMod, Nat.reduceLT, Nat.reduceLeDiff, Nat.reduceEqDiff, Nat.reduceBEq, Nat.reduceBNe, Nat.reduceGT, Int.reduceAdd, Int.reduceSub, Int.reduceMul, Int.reduceNeg, Int.reduceLT, Int.reduceLE, Int.reduceEq, Int.reduceNe, Int.reduceBEq, Int.reduceBNe, Int.reduceToNat, Int.reduceGT, Int.reduceGE, ↓reduceIte, decide_true, decide_false, eq_self, Nat.mul_one, Nat.zero_mul, Nat.one_mul, Int.le_refl, Nat.le_refl, Int.cast_ofNat_Int, Tryd.f10, rI, hll, h1]
  | true =>
    have hh := headOk_iff.1 h1
    obtain ⟨f, rfl⟩ := hl.ne (by omega)
    rw [ic_ints] at rI ⊢
    simp only [unI_eq, if_true] at rI
    cases hf : ((l.length : Int) == 12) with
    | true => simp (decide := true) (maxSteps := 4000000) only [go_sem, Nat.reduceAdd, Nat.reduceSub, Nat.reduceMul, Nat.reduceDiv, Nat.reduceMod, Nat.reduceLT, Nat.reduceLeDiff, Nat.reduceEqDiff, Nat.reduceBEq, Nat.reduceBNe, Nat.reduceGT, Int.reduceAdd, Int.reduceSub, Int.reduceMul, Int.reduceNeg, Int.reduceLT, Int.reduceLE, Int.reduceEq, Int.reduceNe, Int.reduceBEq, Int.reduceBNe, Int.reduceToNat, Int.reduceGT, Int.reduceGE, ↓reduceIte, decide_true, decide_false, eq_self, Nat.mul_one, Nat.zero_mul, Nat.one_mul, Int.le_refl, Nat.le_refl, Int.cast_ofNat_Int, Tryd.f10, rI, unI_eq, hll, h1, hf]
    | false =>
    cases h2 : inB n 1 2000 with
    | false => simp (decide := true) (maxSteps := 4000000) only [go_sem, Nat.reduceAdd, Nat.reduceSub, Nat.reduceMul, Nat.reduceDiv, Nat.reduceMod, Nat.reduceLT, Nat.reduceLeDiff, Nat.reduceEqDiff, Nat.reduceBEq, Nat.reduceBNe, Nat.reduceGT, Int.reduceAdd, Int.reduceSub, Int.reduceMul, Int.reduceNeg, Int.reduceLT, Int.reduceLE, Int.reduceEq, Int.reduceNe, Int.reduceBEq, Int.reduceBNe, Int.reduceToNat, Int.reduceGT, Int.reduceGE, ↓reduceIte, decide_true, decide_false, eq_self, Nat.mul_one, Nat.zero_mul, Nat.one_mul, Int.le_refl, Nat.le_refl, Int.cast_ofNat_Int, Tryd.f10, rI, unI_eq, hll, h1, hf, h2]
    | true =>
      have hf' : ¬ (l.length : Int) = 12 := by simpa using hf
      have hn := inB_iff.1 h2
      have hM := chosen_mem (lo := 2) (hi := 200) m0 (by omega)
      obtain ⟨M, hMe⟩ : ∃ M, chosen 2 200 m0 = M := ⟨_, rfl⟩
      rw [hMe] at hM
      simp (decide := true) (maxSteps := 4000000) only [go_sem, Nat.reduceAdd, Nat.reduceSub, Nat.reduceMul, Nat.reduceDiv, Nat.reduceMod, Nat.reduceLT, Nat.reduceLeDiff, Nat.reduceEqDiff, Nat.reduceBEq, Nat.reduceBNe, Nat.reduceGT, Int.reduceAdd, Int.reduceSub, Int.reduceMul, Int.reduceNeg, Int.reduceLT, Int.reduceLE, Int.reduceEq, Int.reduceNe, Int.reduceBEq, Int.reduceBNe, Int.reduceToNat, Int.reduceGT, Int.reduceGE, ↓reduceIte, decide_true, decide_false, eq_self, Nat.mul_one, Nat.zero_mul, Nat.one_mul, Int.le_refl, Nat.le_refl, Int.cast_ofNat_Int, Tryd.f10, rI, unI_eq, hll, h1, hf, h2, hMe]
      refine pwpC_loopU (A := { k : Nat // k ≤ l.length }) [1, 2, 3, 6, 7] (fun k => [(8, .t (.int .i64 k.1))]) (fun k => [(1, .box [.t (.int .i64 t), .own (ints (insTo M l k.1)) (insTo M l k.1).length 2]), (2, .tok (insTo M l k.1).length 3)]) (fun k => l.length - k.1) ⟨0, by omega⟩ (by decide) (fun _ => by rfl) ?_ fun Q1 hQ1 ⟨k, hk⟩ I1 hI1 => ?_
      · simp (decide := true) (maxSteps := 4000000) only [go_sem, Nat.reduceAdd, Nat.reduceSub, Nat.reduceMul, Nat.reduceDiv, Nat.reduceMod, Nat.reduceLT, Nat.reduceLeDiff, Nat.reduceEqDiff, Nat.reduceBEq, Nat.reduceBNe, Nat.reduceGT, Int.reduceAdd, Int.reduceSub, Int.reduceMul, Int.reduceNeg, Int.reduceLT, Int.reduceLE, Int.reduceEq, Int.reduceNe, Int.reduceBEq, Int.reduceBNe, Int.reduceToNat, Int.reduceGT, Int.reduceGE, ↓reduceIte, decide_true, decide_false, eq_self, Nat.mul_one, Nat.zero_mul, Nat.one_mul, Int.le_refl, Nat.le_refl, Int.cast_ofNat_Int, insTo, List.take_zero, insF, ints, List.map_nil, List.length_nil]
        first | done | exact ⟨⟨rfl, rfl⟩, rfl⟩ | exact ⟨rfl, rfl⟩ | rfl
      · by_cases hlt : (k : Int) < l.length
        · obtain ⟨x, hx⟩ := get_lt hlt
          have hd := ints_at hx
          rw [Nat.mul_one] at hd
          have hc1 : IntKind.i64.wrap (k + 1) = ((k + 1 : Nat) : Int) := by rw [wrap_in (by omega) (by omega)]; omega
          have hs := insTo_succ M hx
          have hlen := insTo_len M l hk
          have hil : (ints (insTo M l k)).length = (insTo M l k).length := ints_len _
          have hroom : ((insTo M l k).length + 1) * 8 ≤ 140737488355328 := by omega
          have hil2 : (ints (insTo M l k) ++ [TV.int .i64 M]).length = (insTo M l k).length + 1 := by simp [ints]
          have hroom2 : ((insTo M l k).length + 1 + 1) * 8 ≤ 140737488355328 := by omega
          by_cases hc : x > M ∧ lastTo l k < M
          · have g1 : x > M := hc.1
            rw [if_pos hc] at hs
            have hs1 : ints (insTo M l (k + 1)) = ints (insTo M l k) ++ [TV.int .i64 M] ++ [TV.int .i64 x] := by rw [hs]; simp [ints]
            have hs2 : (insTo M l (k + 1)).length = (insTo M l k).length + 1 + 1 := by rw [hs]; simp
            by_cases hk0 : k = 0
            · have z : ((k : Int) == 0) = true := beq_int_t (by omega)
              have wk : IntKind.i64.wrap ((k : Int) - 1) = -1 := by rw [hk0]; rfl
              simp (decide := true) (maxSteps := 4000000) only [go_sem, Nat.reduceAdd, Nat.reduceSub, Nat.reduceMul, Nat.reduceDiv, Nat.reduceMod, Nat.reduceLT, Nat.reduceLeDiff, Nat.reduceEqDiff, Nat.reduceBEq, Nat.reduceBNe, Nat.reduceGT, Int.reduceAdd, Int.reduceSub, Int.reduceMul, Int.reduceNeg, Int.reduceLT, Int.reduceLE, Int.reduceEq, Int.reduceNe, Int.reduceBEq, Int.reduceBNe, Int.reduceToNat, Int.reduceGT, Int.reduceGE, ↓reduceIte, decide_true, decide_false, eq_self, Nat.mul_one, Nat.zero_mul, Nat.one_mul, Int.le_refl, Nat.le_refl, Int.cast_ofNat_Int, hlt, hd, g1, z, wk, hil, hil2, hroom, hroom2]
              refine hI1 _ ⟨k + 1, by omega⟩ (by simp only; omega) ?_
              simp (decide := true) (maxSteps := 4000000) only [go_sem, Nat.reduceAdd, Nat.reduceSub, Nat.reduceMul, Nat.reduceDiv, Nat.reduceMod, Nat.reduceLT, Nat.reduceLeDiff, Nat.reduceEqDiff, Nat.reduceBEq, Nat.reduceBNe, Nat.reduceGT, Int.reduceAdd, Int.reduceSub, Int.reduceMul, Int.reduceNeg, Int.reduceLT, Int.reduceLE, Int.reduceEq, Int.reduceNe, Int.reduceBEq, Int.reduceBNe, Int.reduceToNat, Int.reduceGT, Int.reduceGE, ↓reduceIte, decide_true, decide_false, eq_self, Nat.mul_one, Nat.zero_mul, Nat.one_mul, Int.le_refl, Nat.le_refl, Int.cast_ofNat_Int, hc1, hs1, hs2]
            · have z : ((k : Int) == 0) = false := beq_int_f (by omega)
              obtain ⟨j, hj, hjx⟩ := last_row hx hk0
              have hdj := ints_at hjx
              rw [Nat.mul_one] at hdj
              have wk : IntKind.i64.wrap ((k : Int) - 1) = (j : Int) := by rw [wrap_in (by omega) (by omega)]; omega
              have hlj : (j : Int) < l.length := by omega
              have g2 := hc.2
              simp (decide := true) (maxSteps := 4000000) only [go_sem, Nat.reduceAdd, Nat.reduceSub, Nat.reduceMul, Nat.reduceDiv, Nat.reduceMod, Nat.reduceLT, Nat.reduceLeDiff, Nat.reduceEqDiff, Nat.reduceBEq, Nat.reduceBNe, Nat.reduceGT, Int.reduceAdd, Int.reduceSub, Int.reduceMul, Int.reduceNeg, Int.reduceLT, Int.reduceLE, Int.reduceEq, Int.reduceNe, Int.reduceBEq, Int.reduceBNe, Int.reduceToNat, Int.reduceGT, Int.reduceGE, ↓reduceIte, decide_true, decide_false, eq_self, Nat.mul_one, Nat.zero_mul, Nat.one_mul, Int.le_refl, Nat.le_refl, Int.cast_ofNat_Int, hlt, hd, g1, z, wk, hlj, hdj, g2, hil, hil2, hroom, hroom2]
              refine hI1 _ ⟨k + 1, by omega⟩ (by simp only; omega) ?_
              simp (decide := true) (maxSteps := 4000000) only [go_sem, Nat.reduceAdd, Nat.reduceSub, Nat.reduceMul, Nat.reduceDiv, Nat.reduceMod, Nat.reduceLT, Nat.reduceLeDiff, Nat.reduceEqDiff, Nat.reduceBEq, Nat.reduceBNe, Nat.reduceGT, Int.reduceAdd, Int.reduceSub, Int.reduceMul, Int.reduceNeg, Int.reduceLT, Int.reduceLE, Int.reduceEq, Int.reduceNe, Int.reduceBEq, Int.reduceBNe, Int.reduceToNat, Int.reduceGT, Int.reduceGE, ↓reduceIte, decide_true, decide_false, eq_self, Nat.mul_one, Nat.zero_mul, Nat.one_mul, Int.le_refl, Nat.le_refl, Int.cast_ofNat_Int, hc1, hs1, hs2]
          · rw [if_neg hc] at hs
            have hs1 : ints (insTo M l (k + 1)) = ints (insTo M l k) ++ [.int .i64 x] := by rw [hs]; simp [ints]
            have hs2 : (insTo M l (k + 1)).length = (insTo M l k).length + 1 := by rw [hs]; simp
            by_cases hk0 : k = 0
            · have z : ((k : Int) == 0) = true := beq_int_t (by omega)
              have wk : IntKind.i64.wrap ((k : Int) - 1) = -1 := by rw [hk0]; rfl
              have g1 : ¬ x > M := fun h => hc ⟨h, by rw [hk0]; show (1 : Int) < M; omega⟩
              simp (decide := true) (maxSteps := 4000000) only [go_sem, Nat.reduceAdd, Nat.reduceSub, Nat.reduceMul, Nat.reduceDiv, Nat.reduceMod, Nat.reduceLT, Nat.reduceLeDiff, Nat.reduceEqDiff, Nat.reduceBEq, Nat.reduceBNe, Nat.reduceGT, Int.reduceAdd, Int.reduceSub, Int.reduceMul, Int.reduceNeg, Int.reduceLT, Int.reduceLE, Int.reduceEq, Int.reduceNe, Int.reduceBEq, Int.reduceBNe, Int.reduceToNat, Int.reduceGT, Int.reduceGE, ↓reduceIte, decide_true, decide_false, eq_self, Nat.mul_one, Nat.zero_mul, Nat.one_mul, Int.le_refl, Nat.le_refl, Int.cast_ofNat_Int, hlt, hd, g1, z, wk, hil, hroom]
              refine hI1 _ ⟨k + 1, by omega⟩ (by simp only; omega) ?_
              simp (decide := true) (maxSteps := 4000000) only [go_sem, Nat.reduceAdd, Nat.reduceSub, Nat.reduceMul, Nat.reduceDiv, Nat.reduceMod, Nat.reduceLT, Nat.reduceLeDiff, Nat.reduceEqDiff, Nat.reduceBEq, Nat.reduceBNe, Nat.reduceGT, Int.reduceAdd, Int.reduceSub, Int.reduceMul, Int.reduceNeg, Int.reduceLT, Int.reduceLE, Int.reduceEq, Int.reduceNe, Int.reduceBEq, Int.reduceBNe, Int.reduceToNat, Int.reduceGT, Int.reduceGE, ↓reduceIte, decide_true, decide_false, eq_self, Nat.mul_one, Nat.zero_mul, Nat.one_mul, Int.le_refl, Nat.le_refl, Int.cast_ofNat_Int, hc1, hs1, hs2]
            · have z : ((k : Int) == 0) = false := beq_int_f (by omega)
              obtain ⟨j, hj, hjx⟩ := last_row hx hk0
              have hdj := ints_at hjx
              rw [Nat.mul_one] at hdj
              have wk : IntKind.i64.wrap ((k : Int) - 1) = (j : Int) := by rw [wrap_in (by omega) (by omega)]; omega
              have hlj : (j : Int) < l.length := by omega
              by_cases g1 : x > M
              · have g2 : ¬ lastTo l k < M := fun h => hc ⟨g1, h⟩
                simp (decide := true) (maxSteps := 4000000) only [go_sem, Nat.reduceAdd, Nat.reduceSub, Nat.reduceMul, Nat.reduceDiv, Nat.reduceMod, Nat.reduceLT, Nat.reduceLeDiff, Nat.reduceEqDiff, Nat.reduceBEq, Nat.reduceBNe, Nat.reduceGT, Int.reduceAdd, Int.reduceSub, Int.reduceMul, Int.reduceNeg, Int.reduceLT, Int.reduceLE, Int.reduceEq, Int.reduceNe, Int.reduceBEq, Int.reduceBNe, Int.reduceToNat, Int.reduceGT, Int.reduceGE, ↓reduceIte, decide_true, decide_false, eq_self, Nat.mul_one, Nat.zero_mul, Nat.one_mul, Int.le_refl, Nat.le_refl, Int.cast_ofNat_Int, hlt, hd, g1, z, wk, hlj, hdj, g2, hil, hroom]
                refine hI1 _ ⟨k + 1, by omega⟩ (by simp only; omega) ?_
                simp (decide := true) (maxSteps := 4000000) only [go_sem, Nat.reduceAdd, Nat.reduceSub, Nat.reduceMul, Nat.reduceDiv, Nat.reduceMod, Nat.reduceLT, Nat.reduceLeDiff, Nat.reduceEqDiff, Nat.reduceBEq, Nat.reduceBNe, Nat.reduceGT, Int.reduceAdd, Int.reduceSub, Int.reduceMul, Int.reduceNeg, Int.reduceLT, Int.reduceLE, Int.reduceEq, Int.reduceNe, Int.reduceBEq, Int.reduceBNe, Int.reduceToNat, Int.reduceGT, Int.reduceGE, ↓reduceIte, decide_true, decide_false, eq_self, Nat.mul_one, Nat.zero_mul, Nat.one_mul, Int.le_refl, Nat.le_refl, Int.cast_ofNat_Int, hc1, hs1, hs2]
              · simp (decide := true) (maxSteps := 4000000) only [go_sem, Nat.reduceAdd, Nat.reduceSub, Nat.reduceMul, Nat.reduceDiv, Nat.reduceMod, Nat.reduceLT, Nat.reduceLeDiff, Nat.reduceEqDiff, Nat.reduceBEq, Nat.reduceBNe, Nat.reduceGT, Int.reduceAdd, Int.reduceSub, Int.reduceMul, Int.reduceNeg, Int.reduceLT, Int.reduceLE, Int.reduceEq, Int.reduceNe, Int.reduceBEq, Int.reduceBNe, Int.reduceToNat, Int.reduceGT, Int.reduceGE, ↓reduceIte, decide_true, decide_false, eq_self, Nat.mul_one, Nat.zero_mul, Nat.one_mul, Int.le_refl, Nat.le_refl, Int.cast_ofNat_Int, hlt, hd, g1, z, wk, hlj, hdj, hil, hroom]
                refine hI1 _ ⟨k + 1, by omega⟩ (by simp only; omega) ?_
                simp (decide := true) (maxSteps := 4000000) only [go_sem, Nat.reduceAdd, Nat.reduceSub, Nat.reduceMul, Nat.reduceDiv, Nat.reduceMod, Nat.reduceLT, Nat.reduceLeDiff, Nat.reduceEqDiff, Nat.reduceBEq, Nat.reduceBNe, Nat.reduceGT, Int.reduceAdd, Int.reduceSub, Int.reduceMul, Int.reduceNeg, Int.reduceLT, Int.reduceLE, Int.reduceEq, Int.reduceNe, Int.reduceBEq, Int.reduceBNe, Int.reduceToNat, Int.reduceGT, Int.reduceGE, ↓reduceIte, decide_true, decide_false, eq_self, Nat.mul_one, Nat.zero_mul, Nat.one_mul, Int.le_refl, Nat.le_refl, Int.cast_ofNat_Int, hc1, hs1, hs2]
        · have hke : l.length = k := by omega
          subst hke
          have hall := insTo_all M (l := l) (by omega)
          obtain ⟨j, hj⟩ : ∃ j, l.length = j + 1 := ⟨l.length - 1, by omega⟩
          have hx : l[j]? = some l[j] := List.getElem?_eq_getElem (by omega)
          have hdj := ints_at hx
          rw [Nat.mul_one] at hdj
          have hnj := nthI_at hx
          have wk : IntKind.i64.wrap ((l.length : Int) - 1) = (j : Int) := by rw [wrap_in (by omega) (by omega)]; omega
          have wk2 : (l.length : Int) - 1 = (j : Int) := by omega
          have hlj : (j : Int) < l.length := by omega
          rw [wk2, hnj] at hall
          generalize l[j] = y at hdj hall
          have hXo : headOk t (insC M 1 l) = true := by
            rw [headOk_iff]
            have a := insC_ok (more := M) hM.2 hh.2.2
            have b := insC_len (more := M) hh.2.2
            have c := (insC_sub (more := M) (a := 1) (l := l)).length_le
            exact ⟨hh.1, by omega, a⟩
          have hsub := insC_sub (more := M) (a := 1) (l := l)
          obtain ⟨X, hX⟩ : ∃ X, insC M 1 l = X := ⟨_, rfl⟩
          rw [hX] at hall hXo hsub
          have hXh := headOk_iff.1 hXo
          have hXb : X.length ≤ 17592186044415 := by omega
          have h20 : inB n 1 20000 = true := inB_iff.2 (by omega)
          have hmp := more_plans (t := t) (n := n) hsub
          have hmb := more_best (t := t) (n := n) hsub h1 hXo (by omega)
          have bA : bestE t l n = ((bestK t l n (l.length - 1)).1, engrP (bestK t l n (l.length - 1)).2 (n * (t * nthI l (bestK t l n (l.length - 1)).1)), 0) := by unfold bestE; rw [h1, h2]; rfl
          have bB : bestE t X n = ((bestK t X n (X.length - 1)).1, engrP (bestK t X n (X.length - 1)).2 (n * (t * nthI X (bestK t X n (X.length - 1)).1)), 0) := by unfold bestE; rw [hXo, h2]; rfl
          have sA := bestK_spec t l n (l.length - 1)
          have sB := bestK_spec t X n (X.length - 1)
          generalize engrP (bestK t l n (l.length - 1)).2 (n * (t * nthI l (bestK t l n (l.length - 1)).1)) = u at bA hmb
          generalize engrP (bestK t X n (X.length - 1)).2 (n * (t * nthI X (bestK t X n (X.length - 1)).1)) = v at bB hmb
          generalize (bestK t l n (l.length - 1)).1 = bi at bA sA
          generalize (bestK t X n (X.length - 1)).1 = bk at bB sB
          have iA : inB bi 0 (j : Int) = true := inB_iff.2 (by omega)
          have wX : IntKind.i64.wrap ((X.length : Int) - 1) = (X.length : Int) - 1 := wrap_in (by omega) (by omega)
          have iB : inB bk 0 ((X.length : Int) - 1) = true := inB_iff.2 (by omega)
          have g0 : rowF Pl.cs [] = .nilSl := rfl
          have pc : ∀ x : List Int, headOk t x = true → (plansE t x n = ([], 4) ∧ (plansP t x n).length = 0) ∨ (plansE t x n = (plansP t x n, 0) ∧ 0 < (plansP t x n).length ∧ rowF Pl.cs (plansP t x n) = .sl ((plansP t x n).flatMap Pl.cs) (plansP t x n).length true) := fun x hx => by
            by_cases h0 : (plansP t x n).length = 0
            · left; refine ⟨?_, h0⟩
              unfold plansE; rw [hx, h20, if_neg (by simp), if_neg (by simp), if_pos h0]
            · right; refine ⟨?_, by omega, by unfold rowF; rw [if_neg h0]⟩
              unfold plansE; rw [hx, h20, if_neg (by simp), if_neg (by simp), if_neg h0]
          have wb : ∀ {z : Int}, -2000 ≤ z ∧ z ≤ 2000 → IntKind.i64.wrap (0 - z) = -z := fun h => by rw [wrap_in (by omega) (by omega)]; omega
          have hlen := insTo_len M l (Nat.le_refl _)
          have hil : (ints (insTo M l l.length)).length = (insTo M l l.length).length := ints_len _
          have hroom : ((insTo M l l.length).length + 1) * 8 ≤ 140737488355328 := by omega
          have hX0 : ¬ X.length = 0 := by omega
          have hroomX : X.length * 8 ≤ 140737488355328 := by omega
          have pA := pc l h1
          have pB := pc X hXo
          generalize plansP t l n = LA at pA hmp
          generalize plansP t X n = LB at pB hmp
          have qB : ¬ (LB.length : Int) < LA.length := by omega
          have qB0 : ¬ (LB.length : Int) < 0 := by omega
          have cc : (compE t l n = (⟨0, 0, 0, 0⟩, 4) ∧ ∃ d e, compE t X n = (d, e)) ∨ ∃ c d : Pr, compE t l n = (c, 0) ∧ compE t X n = (d, 0) ∧ holP d ≤ holP c ∧ ((-2000 ≤ c.x ∧ c.x ≤ 2000) ∧ -2000 ≤ c.y ∧ c.y ≤ 2000) ∧ (-2000 ≤ d.x ∧ d.x ≤ 2000) ∧ -2000 ≤ d.y ∧ d.y ≤ 2000 := by
            cases hc : compP t l n with
            | none => left; exact ⟨by unfold compE; rw [h1, h20, hc]; rfl, _, _, rfl⟩
            | some c =>
              obtain ⟨d, hd, hle⟩ := more_comp hsub hh.2.2 hXh.2.2 hc
              obtain ⟨_, c1, c2, _⟩ := comp_closes (by omega) h1 hc
              obtain ⟨_, d1, d2, _⟩ := comp_closes (by omega) hXo hd
              exact .inr ⟨c, d, by unfold compE; rw [h1, h20, hc]; rfl, by unfold compE; rw [hXo, h20, hd]; rfl, hle, ⟨c1, c2⟩, d1, d2⟩
          simp (decide := true) (maxSteps := 4000000) only [go_sem, Nat.reduceAdd, Nat.reduceSub, Nat.reduceMul, Nat.reduceDiv, Nat.reduceMod, Nat.reduceLT, Nat.reduceLeDiff, Nat.reduceEqDiff, Nat.reduceBEq, Nat.reduceBNe, Nat.reduceGT, Int.reduceAdd, Int.reduceSub, Int.reduceMul, Int.reduceNeg, Int.reduceLT, Int.reduceLE, Int.reduceEq, Int.reduceNe, Int.reduceBEq, Int.reduceBNe, Int.reduceToNat, Int.reduceGT, Int.reduceGE, ↓reduceIte, decide_true, decide_false, eq_self, Nat.mul_one, Nat.zero_mul, Nat.one_mul, Int.le_refl, Nat.le_refl, Int.cast_ofNat_Int, hlt]
          refine hQ1 _ _ ?_
          by_cases hy : y < M
          · rw [if_pos hy] at hall
            have hcat : ints (insTo M l l.length) ++ [TV.int .i64 M] = ints X := by rw [hall]; simp [ints]
            have hcl : (insTo M l l.length).length + 1 = X.length := by rw [hall]; simp
            rcases pA with ⟨pA, lA⟩ | ⟨pA, lA, rA⟩
            · rcases pB with ⟨pB, lB⟩ | ⟨pB, lB, rB⟩
              · clear qB qB0
                rcases cc with ⟨cA, d, e, cB⟩ | ⟨c, d, cA, cB, hle, cb, db⟩
                · simp (decide := true) (maxSteps := 4000000) only [go_sem, Nat.reduceAdd, Nat.reduceSub, Nat.reduceMul, Nat.reduceDiv, Nat.reduceMod, Nat.reduceLT, Nat.reduceLeDiff, Nat.reduceEqDiff, Nat.reduceBEq, Nat.reduceBNe, Nat.reduceGT, Int.reduceAdd, Int.reduceSub, Int.reduceMul, Int.reduceNeg, Int.reduceLT, Int.reduceLE, Int.reduceEq, Int.reduceNe, Int.reduceBEq, Int.reduceBNe, Int.reduceToNat, Int.reduceGT, Int.reduceGE, ↓reduceIte, decide_true, decide_false, eq_self, Nat.mul_one, Nat.zero_mul, Nat.one_mul, Int.le_refl, Nat.le_refl, Int.cast_ofNat_Int, rI, unI_eq, hll, hXb, wk, hlj, hdj, hy, hil, hroom, h1, bA, bB, iA, wX, iB, hmb, Pr.tv, Pr.cs, beq_self_eq_true, hcat, hcl, hroomX, hX0, pA, pB, g0, cA, cB]
                · have x1 := wb cb.1
                  have x2 := wb cb.2
                  have x3 := wb db.1
                  have x4 := wb db.2
                  have x5 : IntKind.i64.wrap (max c.x (-c.x) + max c.y (-c.y)) = max c.x (-c.x) + max c.y (-c.y) := wrap_in (by omega) (by omega)
                  have x6 : IntKind.i64.wrap (max d.x (-d.x) + max d.y (-d.y)) = max d.x (-d.x) + max d.y (-d.y) := wrap_in (by omega) (by omega)
                  have x7 : ¬ max d.x (-d.x) + max d.y (-d.y) > max c.x (-c.x) + max c.y (-c.y) := Int.not_lt.2 hle
                  simp (decide := true) (maxSteps := 4000000) only [go_sem, Nat.reduceAdd, Nat.reduceSub, Nat.reduceMul, Nat.reduceDiv, Nat.reduceMod, Nat.reduceLT, Nat.reduceLeDiff, Nat.reduceEqDiff, Nat.reduceBEq, Nat.reduceBNe, Nat.reduceGT, Int.reduceAdd, Int.reduceSub, Int.reduceMul, Int.reduceNeg, Int.reduceLT, Int.reduceLE, Int.reduceEq, Int.reduceNe, Int.reduceBEq, Int.reduceBNe, Int.reduceToNat, Int.reduceGT, Int.reduceGE, ↓reduceIte, decide_true, decide_false, eq_self, Nat.mul_one, Nat.zero_mul, Nat.one_mul, Int.le_refl, Nat.le_refl, Int.cast_ofNat_Int, rI, unI_eq, hll, hXb, wk, hlj, hdj, hy, hil, hroom, h1, bA, bB, iA, wX, iB, hmb, Pr.tv, Pr.cs, beq_self_eq_true, hcat, hcl, hroomX, hX0, pA, pB, g0, cA, cB, x1, x2, x3, x4, x5, x6, x7]
              · clear qB
                rcases cc with ⟨cA, d, e, cB⟩ | ⟨c, d, cA, cB, hle, cb, db⟩
                · simp (decide := true) (maxSteps := 4000000) only [go_sem, Nat.reduceAdd, Nat.reduceSub, Nat.reduceMul, Nat.reduceDiv, Nat.reduceMod, Nat.reduceLT, Nat.reduceLeDiff, Nat.reduceEqDiff, Nat.reduceBEq, Nat.reduceBNe, Nat.reduceGT, Int.reduceAdd, Int.reduceSub, Int.reduceMul, Int.reduceNeg, Int.reduceLT, Int.reduceLE, Int.reduceEq, Int.reduceNe, Int.reduceBEq, Int.reduceBNe, Int.reduceToNat, Int.reduceGT, Int.reduceGE, ↓reduceIte, decide_true, decide_false, eq_self, Nat.mul_one, Nat.zero_mul, Nat.one_mul, Int.le_refl, Nat.le_refl, Int.cast_ofNat_Int, rI, unI_eq, hll, hXb, wk, hlj, hdj, hy, hil, hroom, h1, bA, bB, iA, wX, iB, hmb, Pr.tv, Pr.cs, beq_self_eq_true, hcat, hcl, hroomX, hX0, pA, pB, g0, rB, qB0, cA, cB]
                · have x1 := wb cb.1
                  have x2 := wb cb.2
                  have x3 := wb db.1
                  have x4 := wb db.2
                  have x5 : IntKind.i64.wrap (max c.x (-c.x) + max c.y (-c.y)) = max c.x (-c.x) + max c.y (-c.y) := wrap_in (by omega) (by omega)
                  have x6 : IntKind.i64.wrap (max d.x (-d.x) + max d.y (-d.y)) = max d.x (-d.x) + max d.y (-d.y) := wrap_in (by omega) (by omega)
                  have x7 : ¬ max d.x (-d.x) + max d.y (-d.y) > max c.x (-c.x) + max c.y (-c.y) := Int.not_lt.2 hle
                  simp (decide := true) (maxSteps := 4000000) only [go_sem, Nat.reduceAdd, Nat.reduceSub, Nat.reduceMul, Nat.reduceDiv, Nat.reduceMod, Nat.reduceLT, Nat.reduceLeDiff, Nat.reduceEqDiff, Nat.reduceBEq, Nat.reduceBNe, Nat.reduceGT, Int.reduceAdd, Int.reduceSub, Int.reduceMul, Int.reduceNeg, Int.reduceLT, Int.reduceLE, Int.reduceEq, Int.reduceNe, Int.reduceBEq, Int.reduceBNe, Int.reduceToNat, Int.reduceGT, Int.reduceGE, ↓reduceIte, decide_true, decide_false, eq_self, Nat.mul_one, Nat.zero_mul, Nat.one_mul, Int.le_refl, Nat.le_refl, Int.cast_ofNat_Int, rI, unI_eq, hll, hXb, wk, hlj, hdj, hy, hil, hroom, h1, bA, bB, iA, wX, iB, hmb, Pr.tv, Pr.cs, beq_self_eq_true, hcat, hcl, hroomX, hX0, pA, pB, g0, rB, qB0, cA, cB, x1, x2, x3, x4, x5, x6, x7]
            · rcases pB with ⟨pB, lB⟩ | ⟨pB, lB, rB⟩
              · exfalso; omega
              · clear qB0
                rcases cc with ⟨cA, d, e, cB⟩ | ⟨c, d, cA, cB, hle, cb, db⟩
                · simp (decide := true) (maxSteps := 4000000) only [go_sem, Nat.reduceAdd, Nat.reduceSub, Nat.reduceMul, Nat.reduceDiv, Nat.reduceMod, Nat.reduceLT, Nat.reduceLeDiff, Nat.reduceEqDiff, Nat.reduceBEq, Nat.reduceBNe, Nat.reduceGT, Int.reduceAdd, Int.reduceSub, Int.reduceMul, Int.reduceNeg, Int.reduceLT, Int.reduceLE, Int.reduceEq, Int.reduceNe, Int.reduceBEq, Int.reduceBNe, Int.reduceToNat, Int.reduceGT, Int.reduceGE, ↓reduceIte, decide_true, decide_false, eq_self, Nat.mul_one, Nat.zero_mul, Nat.one_mul, Int.le_refl, Nat.le_refl, Int.cast_ofNat_Int, rI, unI_eq, hll, hXb, wk, hlj, hdj, hy, hil, hroom, h1, bA, bB, iA, wX, iB, hmb, Pr.tv, Pr.cs, beq_self_eq_true, hcat, hcl, hroomX, hX0, pA, pB, rA, rB, qB, cA, cB]
                · have x1 := wb cb.1
                  have x2 := wb cb.2
                  have x3 := wb db.1
                  have x4 := wb db.2
                  have x5 : IntKind.i64.wrap (max c.x (-c.x) + max c.y (-c.y)) = max c.x (-c.x) + max c.y (-c.y) := wrap_in (by omega) (by omega)
                  have x6 : IntKind.i64.wrap (max d.x (-d.x) + max d.y (-d.y)) = max d.x (-d.x) + max d.y (-d.y) := wrap_in (by omega) (by omega)
                  have x7 : ¬ max d.x (-d.x) + max d.y (-d.y) > max c.x (-c.x) + max c.y (-c.y) := Int.not_lt.2 hle
                  simp (decide := true) (maxSteps := 4000000) only [go_sem, Nat.reduceAdd, Nat.reduceSub, Nat.reduceMul, Nat.reduceDiv, Nat.reduceMod, Nat.reduceLT, Nat.reduceLeDiff, Nat.reduceEqDiff, Nat.reduceBEq, Nat.reduceBNe, Nat.reduceGT, Int.reduceAdd, Int.reduceSub, Int.reduceMul, Int.reduceNeg, Int.reduceLT, Int.reduceLE, Int.reduceEq, Int.reduceNe, Int.reduceBEq, Int.reduceBNe, Int.reduceToNat, Int.reduceGT, Int.reduceGE, ↓reduceIte, decide_true, decide_false, eq_self, Nat.mul_one, Nat.zero_mul, Nat.one_mul, Int.le_refl, Nat.le_refl, Int.cast_ofNat_Int, rI, unI_eq, hll, hXb, wk, hlj, hdj, hy, hil, hroom, h1, bA, bB, iA, wX, iB, hmb, Pr.tv, Pr.cs, beq_self_eq_true, hcat, hcl, hroomX, hX0, pA, pB, rA, rB, qB, cA, cB, x1, x2, x3, x4, x5, x6, x7]
          · rw [if_neg hy, List.append_nil] at hall
            have hcat : ints (insTo M l l.length) = ints X := by rw [hall]
            have hcl : (insTo M l l.length).length = X.length := by rw [hall]
            rcases pA with ⟨pA, lA⟩ | ⟨pA, lA, rA⟩
            · rcases pB with ⟨pB, lB⟩ | ⟨pB, lB, rB⟩
              · clear qB qB0
                rcases cc with ⟨cA, d, e, cB⟩ | ⟨c, d, cA, cB, hle, cb, db⟩
                · simp (decide := true) (maxSteps := 4000000) only [go_sem, Nat.reduceAdd, Nat.reduceSub, Nat.reduceMul, Nat.reduceDiv, Nat.reduceMod, Nat.reduceLT, Nat.reduceLeDiff, Nat.reduceEqDiff, Nat.reduceBEq, Nat.reduceBNe, Nat.reduceGT, Int.reduceAdd, Int.reduceSub, Int.reduceMul, Int.reduceNeg, Int.reduceLT, Int.reduceLE, Int.reduceEq, Int.reduceNe, Int.reduceBEq, Int.reduceBNe, Int.reduceToNat, Int.reduceGT, Int.reduceGE, ↓reduceIte, decide_true, decide_false, eq_self, Nat.mul_one, Nat.zero_mul, Nat.one_mul, Int.le_refl, Nat.le_refl, Int.cast_ofNat_Int, rI, unI_eq, hll, hXb, wk, hlj, hdj, hy, hil, hroom, h1, bA, bB, iA, wX, iB, hmb, Pr.tv, Pr.cs, beq_self_eq_true, hcat, hcl, hroomX, hX0, pA, pB, g0, cA, cB]
                · have x1 := wb cb.1
                  have x2 := wb cb.2
                  have x3 := wb db.1
                  have x4 := wb db.2
                  have x5 : IntKind.i64.wrap (max c.x (-c.x) + max c.y (-c.y)) = max c.x (-c.x) + max c.y (-c.y) := wrap_in (by omega) (by omega)
                  have x6 : IntKind.i64.wrap (max d.x (-d.x) + max d.y (-d.y)) = max d.x (-d.x) + max d.y (-d.y) := wrap_in (by omega) (by omega)
                  have x7 : ¬ max d.x (-d.x) + max d.y (-d.y) > max c.x (-c.x) + max c.y (-c.y) := Int.not_lt.2 hle
                  simp (decide := true) (maxSteps := 4000000) only [go_sem, Nat.reduceAdd, Nat.reduceSub, Nat.reduceMul, Nat.reduceDiv, Nat.reduceMod, Nat.reduceLT, Nat.reduceLeDiff, Nat.reduceEqDiff, Nat.reduceBEq, Nat.reduceBNe, Nat.reduceGT, Int.reduceAdd, Int.reduceSub, Int.reduceMul, Int.reduceNeg, Int.reduceLT, Int.reduceLE, Int.reduceEq, Int.reduceNe, Int.reduceBEq, Int.reduceBNe, Int.reduceToNat, Int.reduceGT, Int.reduceGE, ↓reduceIte, decide_true, decide_false, eq_self, Nat.mul_one, Nat.zero_mul, Nat.one_mul, Int.le_refl, Nat.le_refl, Int.cast_ofNat_Int, rI, unI_eq, hll, hXb, wk, hlj, hdj, hy, hil, hroom, h1, bA, bB, iA, wX, iB, hmb, Pr.tv, Pr.cs, beq_self_eq_true, hcat, hcl, hroomX, hX0, pA, pB, g0, cA, cB, x1, x2, x3, x4, x5, x6, x7]
              · clear qB
                rcases cc with ⟨cA, d, e, cB⟩ | ⟨c, d, cA, cB, hle, cb, db⟩
                · simp (decide := true) (maxSteps := 4000000) only [go_sem, Nat.reduceAdd, Nat.reduceSub, Nat.reduceMul, Nat.reduceDiv, Nat.reduceMod, Nat.reduceLT, Nat.reduceLeDiff, Nat.reduceEqDiff, Nat.reduceBEq, Nat.reduceBNe, Nat.reduceGT, Int.reduceAdd, Int.reduceSub, Int.reduceMul, Int.reduceNeg, Int.reduceLT, Int.reduceLE, Int.reduceEq, Int.reduceNe, Int.reduceBEq, Int.reduceBNe, Int.reduceToNat, Int.reduceGT, Int.reduceGE, ↓reduceIte, decide_true, decide_false, eq_self, Nat.mul_one, Nat.zero_mul, Nat.one_mul, Int.le_refl, Nat.le_refl, Int.cast_ofNat_Int, rI, unI_eq, hll, hXb, wk, hlj, hdj, hy, hil, hroom, h1, bA, bB, iA, wX, iB, hmb, Pr.tv, Pr.cs, beq_self_eq_true, hcat, hcl, hroomX, hX0, pA, pB, g0, rB, qB0, cA, cB]
                · have x1 := wb cb.1
                  have x2 := wb cb.2
                  have x3 := wb db.1
                  have x4 := wb db.2
                  have x5 : IntKind.i64.wrap (max c.x (-c.x) + max c.y (-c.y)) = max c.x (-c.x) + max c.y (-c.y) := wrap_in (by omega) (by omega)
                  have x6 : IntKind.i64.wrap (max d.x (-d.x) + max d.y (-d.y)) = max d.x (-d.x) + max d.y (-d.y) := wrap_in (by omega) (by omega)
                  have x7 : ¬ max d.x (-d.x) + max d.y (-d.y) > max c.x (-c.x) + max c.y (-c.y) := Int.not_lt.2 hle
                  simp (decide := true) (maxSteps := 4000000) only [go_sem, Nat.reduceAdd, Nat.reduceSub, Nat.reduceMul, Nat.reduceDiv, Nat.reduceMod, Nat.reduceLT, Nat.reduceLeDiff, Nat.reduceEqDiff, Nat.reduceBEq, Nat.reduceBNe, Nat.reduceGT, Int.reduceAdd, Int.reduceSub, Int.reduceMul, Int.reduceNeg, Int.reduceLT, Int.reduceLE, Int.reduceEq, Int.reduceNe, Int.reduceBEq, Int.reduceBNe, Int.reduceToNat, Int.reduceGT, Int.reduceGE, ↓reduceIte, decide_true, decide_false, eq_self, Nat.mul_one, Nat.zero_mul, Nat.one_mul, Int.le_refl, Nat.le_refl, Int.cast_ofNat_Int, rI, unI_eq, hll, hXb, wk, hlj, hdj, hy, hil, hroom, h1, bA, bB, iA, wX, iB, hmb, Pr.tv, Pr.cs, beq_self_eq_true, hcat, hcl, hroomX, hX0, pA, pB, g0, rB, qB0, cA, cB, x1, x2, x3, x4, x5, x6, x7]
            · rcases pB with ⟨pB, lB⟩ | ⟨pB, lB, rB⟩
              · exfalso; omega
              · clear qB0
                rcases cc with ⟨cA, d, e, cB⟩ | ⟨c, d, cA, cB, hle, cb, db⟩
                · simp (decide := true) (maxSteps := 4000000) only [go_sem, Nat.reduceAdd, Nat.reduceSub, Nat.reduceMul, Nat.reduceDiv, Nat.reduceMod, Nat.reduceLT, Nat.reduceLeDiff, Nat.reduceEqDiff, Nat.reduceBEq, Nat.reduceBNe, Nat.reduceGT, Int.reduceAdd, Int.reduceSub, Int.reduceMul, Int.reduceNeg, Int.reduceLT, Int.reduceLE, Int.reduceEq, Int.reduceNe, Int.reduceBEq, Int.reduceBNe, Int.reduceToNat, Int.reduceGT, Int.reduceGE, ↓reduceIte, decide_true, decide_false, eq_self, Nat.mul_one, Nat.zero_mul, Nat.one_mul, Int.le_refl, Nat.le_refl, Int.cast_ofNat_Int, rI, unI_eq, hll, hXb, wk, hlj, hdj, hy, hil, hroom, h1, bA, bB, iA, wX, iB, hmb, Pr.tv, Pr.cs, beq_self_eq_true, hcat, hcl, hroomX, hX0, pA, pB, rA, rB, qB, cA, cB]
                · have x1 := wb cb.1
                  have x2 := wb cb.2
                  have x3 := wb db.1
                  have x4 := wb db.2
                  have x5 : IntKind.i64.wrap (max c.x (-c.x) + max c.y (-c.y)) = max c.x (-c.x) + max c.y (-c.y) := wrap_in (by omega) (by omega)
                  have x6 : IntKind.i64.wrap (max d.x (-d.x) + max d.y (-d.y)) = max d.x (-d.x) + max d.y (-d.y) := wrap_in (by omega) (by omega)
                  have x7 : ¬ max d.x (-d.x) + max d.y (-d.y) > max c.x (-c.x) + max c.y (-c.y) := Int.not_lt.2 hle
                  simp (decide := true) (maxSteps := 4000000) only [go_sem, Nat.reduceAdd, Nat.reduceSub, Nat.reduceMul, Nat.reduceDiv, Nat.reduceMod, Nat.reduceLT, Nat.reduceLeDiff, Nat.reduceEqDiff, Nat.reduceBEq, Nat.reduceBNe, Nat.reduceGT, Int.reduceAdd, Int.reduceSub, Int.reduceMul, Int.reduceNeg, Int.reduceLT, Int.reduceLE, Int.reduceEq, Int.reduceNe, Int.reduceBEq, Int.reduceBNe, Int.reduceToNat, Int.reduceGT, Int.reduceGE, ↓reduceIte, decide_true, decide_false, eq_self, Nat.mul_one, Nat.zero_mul, Nat.one_mul, Int.le_refl, Nat.le_refl, Int.cast_ofNat_Int, rI, unI_eq, hll, hXb, wk, hlj, hdj, hy, hil, hroom, h1, bA, bB, iA, wX, iB, hmb, Pr.tv, Pr.cs, beq_self_eq_true, hcat, hcl, hroomX, hX0, pA, pB, rA, rB, qB, cA, cB, x1, x2, x3, x4, x5, x6, x7]
end Go.Proofs.YtnoahnbjdapieaaDoor
