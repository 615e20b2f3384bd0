/- What the claim leans on, text 6. -/
import Derived.Test.YtnoahnbjdapieaaDoorTie
import Derived.Test.YtnoahnbjdapieaaDoorCards
import Derived.LaidMore
import Derived.SevenTiedAt
import Derived.Test.YtnoahnbjdapieaaDoorC5
set_option linter.unusedSimpArgs false
set_option linter.unusedVariables false

/- Part Im0. -/
namespace Go.Proofs.YtnoahnbjdapieaaDoor
open Go.RowKit Go.Pm Go.Oc
set_option maxRecDepth 100000
set_option linter.unusedVariables false
set_option maxHeartbeats 4000000

theorem lSound_c (t : Int) {l : List Int} {s : TV} (hl : IsRow ic s l) (hll : l.length ≤ 17592186044415) : PCalls Tryd.prog 31 [.agg [.int .i64 t, s]] (.bool (headOk t l)) := by
  have rI := rowI_is hl
  unfold rowL at rI
  refine pcalls_by Tryd.mixes spK3_ok (fn := Tryd.f31) Tryd.func31 rfl (by kernel_rfl) (by show 1 ≤ _; decide) ?_
  rcases hl with ⟨rfl, rfl⟩ | ⟨f, rfl⟩
  · have h0 : headOk t [] = false := by simp [headOk, inB]
    have e0 : unI [] = some [] := rfl
    simp (decide := true) (maxSteps := 4000000) only [go_sem, Nat.reduceAdd, Nat.reduceSub, Nat.reduceMul, Nat.reduceDiv, Nat.reduceMod, Nat.reduceLT, Nat.reduceLeDiff, Nat.reduceEqDiff, Nat.reduceBEq, Nat.reduceBNe, Nat.reduceGT, Int.reduceAdd, Int.reduceSub, Int.reduceMul, Int.reduceNeg, Int.reduceLT, Int.reduceLE, Int.reduceEq, Int.reduceNe, Int.reduceBEq, Int.reduceBNe, Int.reduceToNat, Int.reduceGT, Int.reduceGE, ↓reduceIte, decide_true, decide_false, eq_self, Nat.mul_one, Nat.zero_mul, Nat.one_mul, Int.le_refl, Nat.le_refl, Int.cast_ofNat_Int, Tryd.f31, e0, h0, List.length_nil]
  · rw [ic_ints] at rI ⊢
    simp only [unI_eq, if_true] at rI
    cases h0 : headOk t l with
    | false => simp (decide := true) (maxSteps := 4000000) only [go_sem, Nat.reduceAdd, Nat.reduceSub, Nat.reduceMul, Nat.reduceDiv, Nat.reduceMod, Nat.reduceLT, Nat.reduceLeDiff, Nat.reduceEqDiff, Nat.reduceBEq, Nat.reduceBNe, Nat.reduceGT, Int.reduceAdd, Int.reduceSub, Int.reduceMul, Int.reduceNeg, Int.reduceLT, Int.reduceLE, Int.reduceEq, Int.reduceNe, Int.reduceBEq, Int.reduceBNe, Int.reduceToNat, Int.reduceGT, Int.reduceGE, ↓reduceIte, decide_true, decide_false, eq_self, Nat.mul_one, Nat.zero_mul, Nat.one_mul, Int.le_refl, Nat.le_refl, Int.cast_ofNat_Int, Tryd.f31, rI, unI_eq, hll, h0]
    | true =>
      have hh := headOk_iff.1 h0
      have h1 : inB (l.length : Int) 1 12 = true := inB_iff.2 (by omega)
      have h2 : inB t 1 400 = true := inB_iff.2 (by omega)
      simp (decide := true) (maxSteps := 4000000) only [go_sem, Nat.reduceAdd, Nat.reduceSub, Nat.reduceMul, Nat.reduceDiv, Nat.reduceMod, Nat.reduceLT, Nat.reduceLeDiff, Nat.reduceEqDiff, Nat.reduceBEq, Nat.reduceBNe, Nat.reduceGT, Int.reduceAdd, Int.reduceSub, Int.reduceMul, Int.reduceNeg, Int.reduceLT, Int.reduceLE, Int.reduceEq, Int.reduceNe, Int.reduceBEq, Int.reduceBNe, Int.reduceToNat, Int.reduceGT, Int.reduceGE, ↓reduceIte, decide_true, decide_false, eq_self, Nat.mul_one, Nat.zero_mul, Nat.one_mul, Int.le_refl, Nat.le_refl, Int.cast_ofNat_Int, Tryd.f31, rI, unI_eq, hll, h0, h1, h2]
noncomputable def xSound : List TV → Option TV
  | [.agg [.int .i64 t, s]] => match rowL unI s with
    | some l => if l.length ≤ 17592186044415 then some (.bool (headOk t l)) else none
    | none => none
  | _ => none
theorem xSound_ok : ∀ xs r, xSound xs = some r → PCalls Tryd.prog 31 xs r := by
  intro xs r h
  unfold xSound at h
  split at h
  · split at h
    · rename_i l hl
      have hl := rowL_some (un := unI) rfl (@unI_some) hl
      split at h
      · rename_i hc; cases h; exact lSound_c _ hl hc
      · cases h
    · cases h
  · cases h
attribute [go_sem] xSound
theorem lMoved_c (t : Int) {l : List Int} (f : Bool) (hll : l.length ≤ 12) {c k h : Int} (hc : 0 ≤ c ∧ c < l.length) (hk : 0 ≤ k ∧ k ≤ 400) (hh : 0 ≤ h ∧ h ≤ nthI l c - 1) (hn : nthI l c ≤ 200) :
    PCalls Tryd.prog 33 [.agg [.int .i64 t, .sl (ints l) l.length f], .agg [.int .i64 c, .int .i64 k, .int .i64 h]] (.int .i64 (k * nthI l c + h)) := by
  obtain ⟨C, hC⟩ := Int.eq_ofNat_of_zero_le hc.1
  subst hC
  obtain ⟨x, hx⟩ := get_lt hc.2
  have hd := ints_at hx
  rw [Nat.mul_one] at hd
  have hnx := nthI_at hx
  rw [hnx] at hh hn ⊢
  have hlc := hc.2
  have wl : IntKind.i64.wrap ((l.length : Int) - 1) = (l.length : Int) - 1 := wrap_in (by omega) (by omega)
  have b1 : inB C 0 ((l.length : Int) - 1) = true := inB_iff.2 (by omega)
  have b2 : inB k 0 400 = true := inB_iff.2 (by omega)
  have wx : IntKind.i64.wrap (x - 1) = x - 1 := wrap_in (by omega) (by omega)
  have b3 : inB h 0 (x - 1) = true := inB_iff.2 (by omega)
  have m := mulB (a := k) (b := x) (A := 400) (B := 200) hk.1 (by omega) hk.2 hn
  have w1 : IntKind.i64.wrap (k * x) = k * x := wrap_in (by omega) (by omega)
  have w2 : IntKind.i64.wrap (k * x + h) = k * x + h := wrap_in (by omega) (by omega)
  refine pcalls_by Tryd.mixes spK1_ok (fn := Tryd.f33) Tryd.func33 rfl (by kernel_rfl) (by show 2 ≤ _; decide) ?_
  simp (decide := true) (maxSteps := 4000000) only [go_sem, Nat.reduceAdd, Nat.reduceSub, Nat.reduceMul, Nat.reduceDiv, Nat.reduceMod, Nat.reduceLT, Nat.reduceLeDiff, Nat.reduceEqDiff, Nat.reduceBEq, Nat.reduceBNe, Nat.reduceGT, Int.reduceAdd, Int.reduceSub, Int.reduceMul, Int.reduceNeg, Int.reduceLT, Int.reduceLE, Int.reduceEq, Int.reduceNe, Int.reduceBEq, Int.reduceBNe, Int.reduceToNat, Int.reduceGT, Int.reduceGE, ↓reduceIte, decide_true, decide_false, eq_self, Nat.mul_one, Nat.zero_mul, Nat.one_mul, Int.le_refl, Nat.le_refl, Int.cast_ofNat_Int, Tryd.f33, wl, b1, b2, hlc, hd, wx, b3, w1, w2]
noncomputable def xMoved : List TV → Option TV
  | [.agg [.int .i64 t, .sl cs m f], .agg [.int .i64 c, .int .i64 k, .int .i64 h]] => match unI cs with
    | some l => if m = l.length ∧ l.length ≤ 12 ∧ (0 ≤ c ∧ c < l.length) ∧ (0 ≤ k ∧ k ≤ 400) ∧ (0 ≤ h ∧ h ≤ nthI l c - 1) ∧ nthI l c ≤ 200 then some (.int .i64 (k * nthI l c + h)) else none
    | none => none
  | _ => none
theorem xMoved_ok : ∀ xs r, xMoved xs = some r → PCalls Tryd.prog 33 xs r := by
  intro xs r h
  unfold xMoved at h
  split at h
  · rename_i t cs m f c k hh
    split at h
    · rename_i l hl
      split at h
      · rename_i hc; cases h
        obtain ⟨rfl, h0, h1, h2, h3, h4⟩ := hc
        have e := unI_some hl
        rw [ic_ints] at e
        subst e
        exact lMoved_c t f h0 h1 h2 h3 h4
      · cases h
    · cases h
  · cases h
attribute [go_sem] xMoved
theorem lRatio_c {st : List Int} (full : Bool) (hok : stockOk1 st = true) (a b c d : Int) : PCalls Tryd.prog 39 [.sl (ints st) st.length full, .agg [.int .i64 a, .int .i64 b, .int .i64 c, .int .i64 d]]
    (.tup [.int .i64 (ratioP st ⟨a, b, c, d⟩).1, .int .i64 (ratioP st ⟨a, b, c, d⟩).2.1, .bool (ratioP st ⟨a, b, c, d⟩).2.2]) := by
  have hok' := stockOk1_iff.1 hok
  have hb : ∀ {k : Nat} {x : Int}, st[k]? = some x → 0 ≤ x ∧ x ≤ 200 := fun h => by have := hok'.2 _ (List.mem_of_getElem? h); omega
  have wl : IntKind.i64.wrap ((st.length : Int) - 1) = (st.length : Int) - 1 := wrap_in (by omega) (by omega)
  have op : ∀ {x : Int}, inB x 0 ((st.length : Int) - 1) = true → ∃ (k : Nat) (y : Int), x = k ∧ (k : Int) < st.length ∧ (ints st).drop k = .int .i64 y :: ints (st.drop (k + 1)) ∧ nthI st k = y ∧ 0 ≤ y ∧ y ≤ 200 := fun {x} h => by
    have h := inB_iff.1 h
    obtain ⟨k, rfl⟩ := Int.eq_ofNat_of_zero_le h.1
    have hlt : (k : Int) < st.length := by omega
    obtain ⟨y, hy⟩ := get_lt hlt
    have hd := ints_at hy
    rw [Nat.mul_one] at hd
    exact ⟨k, y, rfl, hlt, hd, nthI_at hy, hb hy⟩
  refine pcalls_by Tryd.mixes spK1_ok (fn := Tryd.f39) Tryd.func39 rfl (by kernel_rfl) (by show 2 ≤ _; decide) ?_
  cases h1 : inB a 0 ((st.length : Int) - 1) with
  | false =>
    have hR : ratioP st ⟨a, b, c, d⟩ = (0, 0, false) := by simp [ratioP, h1]
    simp (decide := true) (maxSteps := 4000000) only [go_sem, Nat.reduceAdd, Nat.reduceSub, Nat.reduceMul, Nat.reduceDiv, Nat.reduceMod, Nat.reduceLT, Nat.reduceLeDiff, Nat.reduceEqDiff, Nat.reduceBEq, Nat.reduceBNe, Nat.reduceGT, Int.reduceAdd, Int.reduceSub, Int.reduceMul, Int.reduceNeg, Int.reduceLT, Int.reduceLE, Int.reduceEq, Int.reduceNe, Int.reduceBEq, Int.reduceBNe, Int.reduceToNat, Int.reduceGT, Int.reduceGE, ↓reduceIte, decide_true, decide_false, eq_self, Nat.mul_one, Nat.zero_mul, Nat.one_mul, Int.le_refl, Nat.le_refl, Int.cast_ofNat_Int, Tryd.f39, wl, h1, hR]
  | true =>
  cases h2 : inB b 0 ((st.length : Int) - 1) with
  | false =>
    have hR : ratioP st ⟨a, b, c, d⟩ = (0, 0, false) := by simp [ratioP, h1, h2]
    simp (decide := true) (maxSteps := 4000000) only [go_sem, Nat.reduceAdd, Nat.reduceSub, Nat.reduceMul, Nat.reduceDiv, Nat.reduceMod, Nat.reduceLT, Nat.reduceLeDiff, Nat.reduceEqDiff, Nat.reduceBEq, Nat.reduceBNe, Nat.reduceGT, Int.reduceAdd, Int.reduceSub, Int.reduceMul, Int.reduceNeg, Int.reduceLT, Int.reduceLE, Int.reduceEq, Int.reduceNe, Int.reduceBEq, Int.reduceBNe, Int.reduceToNat, Int.reduceGT, Int.reduceGE, ↓reduceIte, decide_true, decide_false, eq_self, Nat.mul_one, Nat.zero_mul, Nat.one_mul, Int.le_refl, Nat.le_refl, Int.cast_ofNat_Int, Tryd.f39, wl, h1, h2, hR]
  | true =>
  cases h3 : (a == b) with
  | true =>
    have hR : ratioP st ⟨a, b, c, d⟩ = (0, 0, false) := by simp [ratioP, h1, h2, h3]
    simp (decide := true) (maxSteps := 4000000) only [go_sem, Nat.reduceAdd, Nat.reduceSub, Nat.reduceMul, Nat.reduceDiv, Nat.reduceMod, Nat.reduceLT, Nat.reduceLeDiff, Nat.reduceEqDiff, Nat.reduceBEq, Nat.reduceBNe, Nat.reduceGT, Int.reduceAdd, Int.reduceSub, Int.reduceMul, Int.reduceNeg, Int.reduceLT, Int.reduceLE, Int.reduceEq, Int.reduceNe, Int.reduceBEq, Int.reduceBNe, Int.reduceToNat, Int.reduceGT, Int.reduceGE, ↓reduceIte, decide_true, decide_false, eq_self, Nat.mul_one, Nat.zero_mul, Nat.one_mul, Int.le_refl, Nat.le_refl, Int.cast_ofNat_Int, Tryd.f39, wl, h1, h2, h3, hR]
  | false =>
  obtain ⟨A, x, rfl, la, da, na, xa⟩ := op h1
  obtain ⟨B, y, rfl, lb, db, nb, yb⟩ := op h2
  cases h4 : (c == -1) with
  | true =>
    have hc : c = -1 := by simpa using h4
    have h6 : inB c 0 ((st.length : Int) - 1) = false := by rw [hc]; rfl
    cases h5 : (d == -1) with
    | true =>
      have hR : ratioP st ⟨A, B, c, d⟩ = (x, y, true) := by simp [ratioP, h1, h2, h3, h4, h5, na, nb]
      simp (decide := true) (maxSteps := 4000000) only [go_sem, Nat.reduceAdd, Nat.reduceSub, Nat.reduceMul, Nat.reduceDiv, Nat.reduceMod, Nat.reduceLT, Nat.reduceLeDiff, Nat.reduceEqDiff, Nat.reduceBEq, Nat.reduceBNe, Nat.reduceGT, Int.reduceAdd, Int.reduceSub, Int.reduceMul, Int.reduceNeg, Int.reduceLT, Int.reduceLE, Int.reduceEq, Int.reduceNe, Int.reduceBEq, Int.reduceBNe, Int.reduceToNat, Int.reduceGT, Int.reduceGE, ↓reduceIte, decide_true, decide_false, eq_self, Nat.mul_one, Nat.zero_mul, Nat.one_mul, Int.le_refl, Nat.le_refl, Int.cast_ofNat_Int, Tryd.f39, wl, h1, h2, h3, h4, h5, la, da, lb, db, hR]
    | false =>
      have hR : ratioP st ⟨A, B, c, d⟩ = (0, 0, false) := by simp [ratioP, h1, h2, h3, h4, h5, h6]
      simp (decide := true) (maxSteps := 4000000) only [go_sem, Nat.reduceAdd, Nat.reduceSub, Nat.reduceMul, Nat.reduceDiv, Nat.reduceMod, Nat.reduceLT, Nat.reduceLeDiff, Nat.reduceEqDiff, Nat.reduceBEq, Nat.reduceBNe, Nat.reduceGT, Int.reduceAdd, Int.reduceSub, Int.reduceMul, Int.reduceNeg, Int.reduceLT, Int.reduceLE, Int.reduceEq, Int.reduceNe, Int.reduceBEq, Int.reduceBNe, Int.reduceToNat, Int.reduceGT, Int.reduceGE, ↓reduceIte, decide_true, decide_false, eq_self, Nat.mul_one, Nat.zero_mul, Nat.one_mul, Int.le_refl, Nat.le_refl, Int.cast_ofNat_Int, Tryd.f39, wl, h1, h2, h3, h4, h5, h6, hR]
  | false =>
  cases h6 : inB c 0 ((st.length : Int) - 1) with
  | false =>
    have hR : ratioP st ⟨A, B, c, d⟩ = (0, 0, false) := by simp [ratioP, h1, h2, h3, h4, h6]
    simp (decide := true) (maxSteps := 4000000) only [go_sem, Nat.reduceAdd, Nat.reduceSub, Nat.reduceMul, Nat.reduceDiv, Nat.reduceMod, Nat.reduceLT, Nat.reduceLeDiff, Nat.reduceEqDiff, Nat.reduceBEq, Nat.reduceBNe, Nat.reduceGT, Int.reduceAdd, Int.reduceSub, Int.reduceMul, Int.reduceNeg, Int.reduceLT, Int.reduceLE, Int.reduceEq, Int.reduceNe, Int.reduceBEq, Int.reduceBNe, Int.reduceToNat, Int.reduceGT, Int.reduceGE, ↓reduceIte, decide_true, decide_false, eq_self, Nat.mul_one, Nat.zero_mul, Nat.one_mul, Int.le_refl, Nat.le_refl, Int.cast_ofNat_Int, Tryd.f39, wl, h1, h2, h3, h4, h6, hR]
  | true =>
  cases h7 : inB d 0 ((st.length : Int) - 1) with
  | false =>
    have hR : ratioP st ⟨A, B, c, d⟩ = (0, 0, false) := by simp [ratioP, h1, h2, h3, h4, h6, h7]
    simp (decide := true) (maxSteps := 4000000) only [go_sem, Nat.reduceAdd, Nat.reduceSub, Nat.reduceMul, Nat.reduceDiv, Nat.reduceMod, Nat.reduceLT, Nat.reduceLeDiff, Nat.reduceEqDiff, Nat.reduceBEq, Nat.reduceBNe, Nat.reduceGT, Int.reduceAdd, Int.reduceSub, Int.reduceMul, Int.reduceNeg, Int.reduceLT, Int.reduceLE, Int.reduceEq, Int.reduceNe, Int.reduceBEq, Int.reduceBNe, Int.reduceToNat, Int.reduceGT, Int.reduceGE, ↓reduceIte, decide_true, decide_false, eq_self, Nat.mul_one, Nat.zero_mul, Nat.one_mul, Int.le_refl, Nat.le_refl, Int.cast_ofNat_Int, Tryd.f39, wl, h1, h2, h3, h4, h6, h7, hR]
  | true =>
  cases h8 : (c == d) with
  | true =>
    have hR : ratioP st ⟨A, B, c, d⟩ = (0, 0, false) := by simp [ratioP, h1, h2, h3, h4, h6, h7, h8]
    simp (decide := true) (maxSteps := 4000000) only [go_sem, Nat.reduceAdd, Nat.reduceSub, Nat.reduceMul, Nat.reduceDiv, Nat.reduceMod, Nat.reduceLT, Nat.reduceLeDiff, Nat.reduceEqDiff, Nat.reduceBEq, Nat.reduceBNe, Nat.reduceGT, Int.reduceAdd, Int.reduceSub, Int.reduceMul, Int.reduceNeg, Int.reduceLT, Int.reduceLE, Int.reduceEq, Int.reduceNe, Int.reduceBEq, Int.reduceBNe, Int.reduceToNat, Int.reduceGT, Int.reduceGE, ↓reduceIte, decide_true, decide_false, eq_self, Nat.mul_one, Nat.zero_mul, Nat.one_mul, Int.le_refl, Nat.le_refl, Int.cast_ofNat_Int, Tryd.f39, wl, h1, h2, h3, h4, h6, h7, h8, hR]
  | false =>
  cases h9 : ((A : Int) == c) with
  | true =>
    have hR : ratioP st ⟨A, B, c, d⟩ = (0, 0, false) := by simp [ratioP, h1, h2, h3, h4, h6, h7, h8, h9]
    simp (decide := true) (maxSteps := 4000000) only [go_sem, Nat.reduceAdd, Nat.reduceSub, Nat.reduceMul, Nat.reduceDiv, Nat.reduceMod, Nat.reduceLT, Nat.reduceLeDiff, Nat.reduceEqDiff, Nat.reduceBEq, Nat.reduceBNe, Nat.reduceGT, Int.reduceAdd, Int.reduceSub, Int.reduceMul, Int.reduceNeg, Int.reduceLT, Int.reduceLE, Int.reduceEq, Int.reduceNe, Int.reduceBEq, Int.reduceBNe, Int.reduceToNat, Int.reduceGT, Int.reduceGE, ↓reduceIte, decide_true, decide_false, eq_self, Nat.mul_one, Nat.zero_mul, Nat.one_mul, Int.le_refl, Nat.le_refl, Int.cast_ofNat_Int, Tryd.f39, wl, h1, h2, h3, h4, h6, h7, h8, h9, hR]
  | false =>
  cases h10 : ((A : Int) == d) with
  | true =>
    have hR : ratioP st ⟨A, B, c, d⟩ = (0, 0, false) := by simp [ratioP, h1, h2, h3, h4, h6, h7, h8, h9, h10]
    simp (decide := true) (maxSteps := 4000000) only [go_sem, Nat.reduceAdd, Nat.reduceSub, Nat.reduceMul, Nat.reduceDiv, Nat.reduceMod, Nat.reduceLT, Nat.reduceLeDiff, Nat.reduceEqDiff, Nat.reduceBEq, Nat.reduceBNe, Nat.reduceGT, Int.reduceAdd, Int.reduceSub, Int.reduceMul, Int.reduceNeg, Int.reduceLT, Int.reduceLE, Int.reduceEq, Int.reduceNe, Int.reduceBEq, Int.reduceBNe, Int.reduceToNat, Int.reduceGT, Int.reduceGE, ↓reduceIte, decide_true, decide_false, eq_self, Nat.mul_one, Nat.zero_mul, Nat.one_mul, Int.le_refl, Nat.le_refl, Int.cast_ofNat_Int, Tryd.f39, wl, h1, h2, h3, h4, h6, h7, h8, h9, h10, hR]
  | false =>
  cases h11 : ((B : Int) == c) with
  | true =>
    have hR : ratioP st ⟨A, B, c, d⟩ = (0, 0, false) := by simp [ratioP, h1, h2, h3, h4, h6, h7, h8, h9, h10, h11]
    simp (decide := true) (maxSteps := 4000000) only [go_sem, Nat.reduceAdd, Nat.reduceSub, Nat.reduceMul, Nat.reduceDiv, Nat.reduceMod, Nat.reduceLT, Nat.reduceLeDiff, Nat.reduceEqDiff, Nat.reduceBEq, Nat.reduceBNe, Nat.reduceGT, Int.reduceAdd, Int.reduceSub, Int.reduceMul, Int.reduceNeg, Int.reduceLT, Int.reduceLE, Int.reduceEq, Int.reduceNe, Int.reduceBEq, Int.reduceBNe, Int.reduceToNat, Int.reduceGT, Int.reduceGE, ↓reduceIte, decide_true, decide_false, eq_self, Nat.mul_one, Nat.zero_mul, Nat.one_mul, Int.le_refl, Nat.le_refl, Int.cast_ofNat_Int, Tryd.f39, wl, h1, h2, h3, h4, h6, h7, h8, h9, h10, h11, hR]
  | false =>
  cases h12 : ((B : Int) == d) with
  | true =>
    have hR : ratioP st ⟨A, B, c, d⟩ = (0, 0, false) := by simp [ratioP, h1, h2, h3, h4, h6, h7, h8, h9, h10, h11, h12]
    simp (decide := true) (maxSteps := 4000000) only [go_sem, Nat.reduceAdd, Nat.reduceSub, Nat.reduceMul, Nat.reduceDiv, Nat.reduceMod, Nat.reduceLT, Nat.reduceLeDiff, Nat.reduceEqDiff, Nat.reduceBEq, Nat.reduceBNe, Nat.reduceGT, Int.reduceAdd, Int.reduceSub, Int.reduceMul, Int.reduceNeg, Int.reduceLT, Int.reduceLE, Int.reduceEq, Int.reduceNe, Int.reduceBEq, Int.reduceBNe, Int.reduceToNat, Int.reduceGT, Int.reduceGE, ↓reduceIte, decide_true, decide_false, eq_self, Nat.mul_one, Nat.zero_mul, Nat.one_mul, Int.le_refl, Nat.le_refl, Int.cast_ofNat_Int, Tryd.f39, wl, h1, h2, h3, h4, h6, h7, h8, h9, h10, h11, h12, hR]
  | false =>
  have hR : ratioP st ⟨A, B, c, d⟩ = (nthI st A * nthI st c, nthI st B * nthI st d, true) := by simp [ratioP, h1, h2, h3, h4, h6, h7, h8, h9, h10, h11, h12]
  obtain ⟨C, z, rfl, lc, dc, nc, zc⟩ := op h6
  obtain ⟨D, v, rfl, ld, dd, nd, vd⟩ := op h7
  rw [na, nb, nc, nd] at hR
  have m1 := mulB (a := x) (b := z) (A := 200) (B := 200) xa.1 zc.1 xa.2 zc.2
  have m2 := mulB (a := y) (b := v) (A := 200) (B := 200) yb.1 vd.1 yb.2 vd.2
  have w1 : IntKind.i64.wrap (x * z) = x * z := wrap_in (by omega) (by omega)
  have w2 : IntKind.i64.wrap (y * v) = y * v := wrap_in (by omega) (by omega)
  simp (decide := true) (maxSteps := 4000000) only [go_sem, Nat.reduceAdd, Nat.reduceSub, Nat.reduceMul, Nat.reduceDiv, Nat.reduceMod, Nat.reduceLT, Nat.reduceLeDiff, Nat.reduceEqDiff, Nat.reduceBEq, Nat.reduceBNe, Nat.reduceGT, Int.reduceAdd, Int.reduceSub, Int.reduceMul, Int.reduceNeg, Int.reduceLT, Int.reduceLE, Int.reduceEq, Int.reduceNe, Int.reduceBEq, Int.reduceBNe, Int.reduceToNat, Int.reduceGT, Int.reduceGE, ↓reduceIte, decide_true, decide_false, eq_self, Nat.mul_one, Nat.zero_mul, Nat.one_mul, Int.le_refl, Nat.le_refl, Int.cast_ofNat_Int, Tryd.f39, wl, h1, h2, h3, h4, h6, h7, h8, h9, h10, h11, h12, la, da, lb, db, lc, dc, ld, dd, w1, w2, hR]
noncomputable def xRatio : List TV → Option TV
  | [.sl cs n full, .agg [.int .i64 a, .int .i64 b, .int .i64 c, .int .i64 d]] => match unI cs with
    | some st => if n = st.length ∧ stockOk1 st = true then some (.tup [.int .i64 (ratioP st ⟨a, b, c, d⟩).1, .int .i64 (ratioP st ⟨a, b, c, d⟩).2.1, .bool (ratioP st ⟨a, b, c, d⟩).2.2]) else none
    | none => none
  | _ => none
theorem xRatio_ok : ∀ xs r, xRatio xs = some r → PCalls Tryd.prog 39 xs r := by
  intro xs r h
  unfold xRatio at h
  split at h
  · rename_i cs n full a b c d
    split at h
    · rename_i st hl
      split at h
      · rename_i hc; cases h
        obtain ⟨rfl, h0⟩ := hc
        have e := unI_some hl
        rw [ic_ints] at e
        subst e
        exact lRatio_c full h0 a b c d
      · cases h
    · cases h
  · cases h
attribute [go_sem] xRatio
noncomputable def spM1 : Pm.Spec := ((spK3.one 31 xSound).one 33 xMoved).one 39 xRatio
@[go_sem] theorem spM1_p (f : FuncId) (xs : List TV) : spM1.p f xs = Pm.Spec.p (((spK3.one 31 xSound).one 33 xMoved).one 39 xRatio) f xs := rfl
@[go_sem] theorem spM1_h (f : FuncId) (ps : List PV) (hl : List PO) : spM1.h f ps hl = Pm.Spec.h (((spK3.one 31 xSound).one 33 xMoved).one 39 xRatio) f ps hl := rfl
@[go_sem] theorem spM1_fz (f : FuncId) : spM1.fz f = Pm.Spec.fz (((spK3.one 31 xSound).one 33 xMoved).one 39 xRatio) f := rfl
@[go_sem] theorem spM1_fr (f : FuncId) : spM1.fr f = Pm.Spec.fr (((spK3.one 31 xSound).one 33 xMoved).one 39 xRatio) f := rfl
@[go_sem] theorem spM1_mu (t : TypeId) : spM1.mu t = Pm.Spec.mu (((spK3.one 31 xSound).one 33 xMoved).one 39 xRatio) t := rfl
theorem spM1_ok : SpecOk Tryd.prog spM1 := Spec.one_ok xRatio_ok (Spec.one_ok xMoved_ok (Spec.one_ok xSound_ok spK3_ok))
end Go.Proofs.YtnoahnbjdapieaaDoor

/- Part Im. -/
namespace Go.Oc
open Go Go.Pm
set_option maxRecDepth 100000
def lastC (L : List Pl) : Nat → Int
  | 0 => -1
  | i + 1 => (L.getD i ⟨0, 0, 0⟩).c
theorem lastC_succ {L : List Pl} {i : Nat} {x : Pl} (h : L[i]? = some x) : lastC L (i + 1) = x.c := by
  show (L.getD i ⟨0, 0, 0⟩).c = x.c
  rw [List.getD_eq_getElem?_getD, h]; rfl
theorem lastC_lt {L : List Pl} (hp : L.Pairwise fun p q => p.c < q.c) (h0 : ∀ p ∈ L, 0 ≤ p.c) {i : Nat} {x : Pl} (h : L[i]? = some x) : lastC L i < x.c := by
  cases i with
  | zero =>
    have := h0 x (List.mem_of_getElem? h)
    show (-1 : Int) < x.c
    omega
  | succ i =>
    have hi := (List.getElem?_eq_some_iff.1 h)
    obtain ⟨hi1, hi2⟩ := hi
    show (L.getD i ⟨0, 0, 0⟩).c < x.c
    rw [List.getD_eq_getElem?_getD, List.getElem?_eq_getElem (by omega : i < L.length), Option.getD_some, ← hi2]
    exact List.pairwise_iff_getElem.1 hp i (i + 1) (by omega) hi1 (by omega)
end Go.Oc
namespace Go.Proofs.YtnoahnbjdapieaaDoor
open Go.RowKit Go.Pm Go.Oc
set_option maxRecDepth 100000
set_option linter.unusedVariables false
set_option maxHeartbeats 8000000

theorem IndexCloses_c (t : Int) {l : List Int} {s : TV} (hl : IsRow ic s l) (hll : l.length ≤ 17592186044415) (n less : Int) : PCalls Tryd.prog 7 [.agg [.int .i64 t, s], .int .i64 n, .int .i64 less] (.bool true) := by
  have rI := rowI_is hl
  unfold rowL at rI
  have hz : ∀ k : Int, ¬ k = 0 → ¬ k = 4 → plansE t l n = ([], k) → compE t l n = (⟨0, 0, 0, 0⟩, k) → PCalls Tryd.prog 7 [.agg [.int .i64 t, s], .int .i64 n, .int .i64 less] (.bool true) := by
    intro k hk hk4 hE hC
    have k1 : (k != 0) = true := bne_int_t hk
    have k2 : (k != 4) = true := bne_int_t hk4
    have g1 : rowF Pl.cs [] = .nilSl := rfl
    refine pcalls_by Tryd.mixes spM1_ok (fn := Tryd.f7) Tryd.func7 rfl (by kernel_rfl) (by show 3 ≤ _; decide) ?_
    simp (decide := true) (maxSteps := 4000000) only [go_sem, Nat.reduceAdd, Nat.reduceSub, Nat.reduceMul, Nat.reduceDiv, Nat.reduceMod, Nat.reduceLT, Nat.reduceLeDiff, Nat.reduceEqDiff, Nat.reduceBEq, Nat.reduceBNe, Nat.reduceGT, Int.reduceAdd, Int.reduceSub, Int.reduceMul, Int.reduceNeg, Int.reduceLT, Int.reduceLE, Int.reduceEq, Int.reduceNe, Int.reduceBEq, Int.reduceBNe, Int.reduceToNat, Int.reduceGT, Int.reduceGE, ↓reduceIte, decide_true, decide_false, eq_self, Nat.mul_one, Nat.zero_mul, Nat.one_mul, Int.le_refl, Nat.le_refl, Int.cast_ofNat_Int, Tryd.f7, rI, hll, hE, hC, k1, k2, g1, beq_self_eq_true, Pr.tv, Pr.cs]
  cases h1 : headOk t l with
  | false => exact hz 10 (by decide) (by decide) (by unfold plansE; rw [if_pos h1]) (by unfold compE; rw [if_pos h1])
  | true =>
  cases h2 : inB n 1 20000 with
  | false => exact hz 11 (by decide) (by decide) (by unfold plansE; rw [h1, h2]; rfl) (by unfold compE; rw [h1, h2]; rfl)
  | true =>
    clear hz
    have hh := headOk_iff.1 h1
    have hn := inB_iff.1 h2
    obtain ⟨f, rfl⟩ := hl.ne (by omega)
    rw [ic_ints] at rI ⊢
    simp only [unI_eq, if_true] at rI
    have wl : IntKind.i64.wrap ((l.length : Int) - 1) = (l.length : Int) - 1 := wrap_in (by omega) (by omega)
    have hPT : plansP t l n = plansTo t l n l.length := rfl
    obtain ⟨L, hL⟩ : ∃ L, plansTo t l n l.length = L := ⟨_, rfl⟩
    rw [hL] at hPT
    have hLl := plansTo_len t l n l.length
    have hLp := plansTo_pw t l n l.length
    rw [hL] at hLl hLp
    have hLm : ∀ p ∈ L, (0 ≤ p.c ∧ p.c < l.length) ∧ (0 ≤ p.t ∧ p.t ≤ 400) ∧ (0 ≤ p.h ∧ p.h ≤ nthI l p.c - 1) ∧ n * (p.t * nthI l p.c + p.h) = t * nthI l p.c := fun p hp => plan_moves (by omega) h1 (by rw [hPT]; exact hp)
    have hcase : (rowF Pl.cs L = .nilSl ∧ plansE t l n = (L, 4) ∧ (L.length : Int) = 0) ∨ (rowF Pl.cs L = .sl (L.flatMap Pl.cs) L.length true ∧ plansE t l n = (L, 0) ∧ (L.length : Int) > 0) := by
      by_cases h0 : L.length = 0
      · have e : L = [] := List.length_eq_zero_iff.1 h0
        subst e
        left; refine ⟨rfl, ?_, rfl⟩
        unfold plansE; rw [h1, h2, hPT]; rfl
      · right; refine ⟨by unfold rowF; rw [if_neg h0], ?_, by omega⟩
        unfold plansE; rw [h1, h2, hPT]
        cases L with
        | nil => exact absurd rfl h0
        | cons a L => rfl
    refine pcalls_by Tryd.mixes spM1_ok (fn := Tryd.f7) Tryd.func7 rfl (by kernel_rfl) (by show 3 ≤ _; decide) ?_
    rcases hcase with ⟨hr, hE, hX⟩ | ⟨hr, hE, hX⟩
    all_goals
      simp (decide := true) (maxSteps := 4000000) only [go_sem, Nat.reduceAdd, Nat.reduceSub, Nat.reduceMul, Nat.reduceDiv, Nat.reduceMod, Nat.reduceLT, Nat.reduceLeDiff, Nat.reduceEqDiff, Nat.reduceBEq, Nat.reduceBNe, Nat.reduceGT, Int.reduceAdd, Int.reduceSub, Int.reduceMul, Int.reduceNeg, Int.reduceLT, Int.reduceLE, Int.reduceEq, Int.reduceNe, Int.reduceBEq, Int.reduceBNe, Int.reduceToNat, Int.reduceGT, Int.reduceGE, ↓reduceIte, decide_true, decide_false, eq_self, Nat.mul_one, Nat.zero_mul, Nat.one_mul, Int.le_refl, Nat.le_refl, Int.cast_ofNat_Int, Tryd.f7, rI, unI_eq, hll, hE, hr, h1, h2, Pr.tv, Pr.cs]
      refine pwpC_loopU (A := { i : Nat // i ≤ L.length }) [1, 2, 3, 6, 7, 8, 9, 10] (fun i => [(12, .t (.int .i64 i.1)), (11, .t (.int .i64 (lastC L i.1)))]) (fun _ => []) (fun i => L.length - i.1) ⟨0, by omega⟩ (by decide) (fun _ => by rfl) ?_ fun Q1 hQ1 ⟨i, hi⟩ I1 hI1 => ?_
      · simp (decide := true) (maxSteps := 4000000) only [go_sem, Nat.reduceAdd, Nat.reduceSub, Nat.reduceMul, Nat.reduceDiv, Nat.reduceMod, Nat.reduceLT, Nat.reduceLeDiff, Nat.reduceEqDiff, Nat.reduceBEq, Nat.reduceBNe, Nat.reduceGT, Int.reduceAdd, Int.reduceSub, Int.reduceMul, Int.reduceNeg, Int.reduceLT, Int.reduceLE, Int.reduceEq, Int.reduceNe, Int.reduceBEq, Int.reduceBNe, Int.reduceToNat, Int.reduceGT, Int.reduceGE, ↓reduceIte, decide_true, decide_false, eq_self, Nat.mul_one, Nat.zero_mul, Nat.one_mul, Int.le_refl, Nat.le_refl, Int.cast_ofNat_Int, lastC]
      · by_cases hlt : (i : Int) < L.length
        · first
          | (exfalso; omega)
          | (obtain ⟨x, hx⟩ := get_lt hlt
             have d1 := flat_at Pl.cs (n := 3) (fun _ => rfl) hx
             have hxm := hLm x (List.mem_of_getElem? hx)
             have hla := lastC_lt hLp (fun p hp => (hLm p hp).1.1) hx
             have hls := lastC_succ hx
             obtain ⟨pc, pt, ph⟩ := x
             simp only at hxm hla hls
             obtain ⟨b1, b2, b3, b4⟩ := hxm
             have hi1 : IntKind.i64.wrap ((i : Int) + 1) = ((i + 1 : Nat) : Int) := by rw [wrap_in (by omega) (by omega)]; omega
             obtain ⟨C, hC⟩ := Int.eq_ofNat_of_zero_le b1.1
             subst hC
             obtain ⟨h, hxc⟩ := get_lt b1.2
             have hd := ints_at hxc
             rw [Nat.mul_one] at hd
             have hnx := nthI_at hxc
             have hb := head_at h1 hxc
             rw [hnx] at b3 b4
             have hlc := b1.2
             have c1 : (l.length ≤ 12 ∧ ((0 : Int) ≤ (C : Int) ∧ (C : Int) < (l.length : Int)) ∧ (0 ≤ pt ∧ pt ≤ 400) ∧ (0 ≤ ph ∧ ph ≤ h - 1) ∧ h ≤ 200) := ⟨hh.2.1.2, ⟨by omega, hlc⟩, b2, b3, hb.2⟩
             have m0 := mulB (a := pt) (b := h) (A := 400) (B := 200) (by omega) (by omega) (by omega) (by omega)
             obtain ⟨m, hm⟩ : ∃ m, pt * h + ph = m := ⟨_, rfl⟩
             rw [hm] at b4
             have hm0 : ¬ m < 0 := by omega
             have hth := Int.mul_pos (show 0 < t by omega) (show 0 < h by omega)
             have m4 := mulB (a := t) (b := h) (A := 400) (B := 200) (by omega) (by omega) (by omega) (by omega)
             have w4 : IntKind.i64.wrap (t * h) = t * h := wrap_in (by omega) (by omega)
             have w1 : IntKind.i64.wrap (n * m) = t * h := by rw [b4]; exact w4
             have hle : ¬ (C : Int) ≤ lastC L i := by omega
             have cM : 0 < n ∧ n ≤ 9223372036854775807 := by omega
             have hfn := fewer_not (less := less) (show 0 < n by omega) hth b4
             have z1 := Int.emod_nonneg less (show n ≠ 0 by omega)
             have z2 := Int.emod_lt_of_pos less (show 0 < n by omega)
             have m6 := mulB (a := less % n) (b := m) (A := 20000) (B := 100000) (by omega) (by omega) (by omega) (by omega)
             have w6 : IntKind.i64.wrap (less % n * m) = less % n * m := wrap_in (by omega) (by omega)
             have e6 : (less % n * m == t * h) = false := beq_int_f hfn
             simp (decide := true) (maxSteps := 4000000) only [go_sem, Nat.reduceAdd, Nat.reduceSub, Nat.reduceMul, Nat.reduceDiv, Nat.reduceMod, Nat.reduceLT, Nat.reduceLeDiff, Nat.reduceEqDiff, Nat.reduceBEq, Nat.reduceBNe, Nat.reduceGT, Int.reduceAdd, Int.reduceSub, Int.reduceMul, Int.reduceNeg, Int.reduceLT, Int.reduceLE, Int.reduceEq, Int.reduceNe, Int.reduceBEq, Int.reduceBNe, Int.reduceToNat, Int.reduceGT, Int.reduceGE, ↓reduceIte, decide_true, decide_false, eq_self, Nat.mul_one, Nat.zero_mul, Nat.one_mul, Int.le_refl, Nat.le_refl, Int.cast_ofNat_Int, hlt, d1, Pl.cs, unI_eq, hnx, c1, hm, hm0, hle, w1, w4, hlc, hd, bne_self_eq_false, cM, w6, e6]
             refine hI1 _ ⟨i + 1, by omega⟩ (by simp only; omega) ?_
             simp (decide := true) (maxSteps := 4000000) only [go_sem, Nat.reduceAdd, Nat.reduceSub, Nat.reduceMul, Nat.reduceDiv, Nat.reduceMod, Nat.reduceLT, Nat.reduceLeDiff, Nat.reduceEqDiff, Nat.reduceBEq, Nat.reduceBNe, Nat.reduceGT, Int.reduceAdd, Int.reduceSub, Int.reduceMul, Int.reduceNeg, Int.reduceLT, Int.reduceLE, Int.reduceEq, Int.reduceNe, Int.reduceBEq, Int.reduceBNe, Int.reduceToNat, Int.reduceGT, Int.reduceGE, ↓reduceIte, decide_true, decide_false, eq_self, Nat.mul_one, Nat.zero_mul, Nat.one_mul, Int.le_refl, Nat.le_refl, Int.cast_ofNat_Int, hi1, hls])
        · have hz0 : ¬ (i : Int) < 0 := by omega
          simp (decide := true) (maxSteps := 4000000) only [go_sem, Nat.reduceAdd, Nat.reduceSub, Nat.reduceMul, Nat.reduceDiv, Nat.reduceMod, Nat.reduceLT, Nat.reduceLeDiff, Nat.reduceEqDiff, Nat.reduceBEq, Nat.reduceBNe, Nat.reduceGT, Int.reduceAdd, Int.reduceSub, Int.reduceMul, Int.reduceNeg, Int.reduceLT, Int.reduceLE, Int.reduceEq, Int.reduceNe, Int.reduceBEq, Int.reduceBNe, Int.reduceToNat, Int.reduceGT, Int.reduceGE, ↓reduceIte, decide_true, decide_false, eq_self, Nat.mul_one, Nat.zero_mul, Nat.one_mul, Int.le_refl, Nat.le_refl, Int.cast_ofNat_Int, hlt, hz0]
          refine hQ1 _ _ ?_
          simp (decide := true) (maxSteps := 4000000) only [go_sem, Nat.reduceAdd, Nat.reduceSub, Nat.reduceMul, Nat.reduceDiv, Nat.reduceMod, Nat.reduceLT, Nat.reduceLeDiff, Nat.reduceEqDiff, Nat.reduceBEq, Nat.reduceBNe, Nat.reduceGT, Int.reduceAdd, Int.reduceSub, Int.reduceMul, Int.reduceNeg, Int.reduceLT, Int.reduceLE, Int.reduceEq, Int.reduceNe, Int.reduceBEq, Int.reduceBNe, Int.reduceToNat, Int.reduceGT, Int.reduceGE, ↓reduceIte, decide_true, decide_false, eq_self, Nat.mul_one, Nat.zero_mul, Nat.one_mul, Int.le_refl, Nat.le_refl, Int.cast_ofNat_Int]
          refine pwpC_loopU (A := { i : Nat // i ≤ l.length }) [1, 2, 3, 6, 7, 8, 9, 10] (fun i => [(15, .t (.int .i64 i.1)), (14, .t (.int .i64 (plansTo t l n i.1).length))]) (fun _ => []) (fun i => l.length - i.1) ⟨0, by omega⟩ (by decide) (fun _ => by rfl) ?_ fun Q2 hQ2 ⟨j, hj⟩ I2 hI2 => ?_
          · simp (decide := true) (maxSteps := 4000000) only [go_sem, Nat.reduceAdd, Nat.reduceSub, Nat.reduceMul, Nat.reduceDiv, Nat.reduceMod, Nat.reduceLT, Nat.reduceLeDiff, Nat.reduceEqDiff, Nat.reduceBEq, Nat.reduceBNe, Nat.reduceGT, Int.reduceAdd, Int.reduceSub, Int.reduceMul, Int.reduceNeg, Int.reduceLT, Int.reduceLE, Int.reduceEq, Int.reduceNe, Int.reduceBEq, Int.reduceBNe, Int.reduceToNat, Int.reduceGT, Int.reduceGE, ↓reduceIte, decide_true, decide_false, eq_self, Nat.mul_one, Nat.zero_mul, Nat.one_mul, Int.le_refl, Nat.le_refl, Int.cast_ofNat_Int, plansTo, List.range_zero, List.filterMap_nil, List.length_nil]
          · by_cases hlj : (j : Int) < l.length
            · obtain ⟨h, hxc⟩ := get_lt hlj
              have hd := ints_at hxc
              rw [Nat.mul_one] at hd
              have hnx := nthI_at hxc
              have hb := head_at h1 hxc
              have hj1 : IntKind.i64.wrap ((j : Int) + 1) = ((j + 1 : Nat) : Int) := by rw [wrap_in (by omega) (by omega)]; omega
              have m4 := mulB (a := t) (b := h) (A := 400) (B := 200) (by omega) (by omega) (by omega) (by omega)
              have w4 : IntKind.i64.wrap (t * h) = t * h := wrap_in (by omega) (by omega)
              have hn0 : ¬ n = 0 := by omega
              have hlen := plansTo_len t l n j
              have hsu := plansTo_succ t l n j
              rw [hnx] at hsu
              by_cases hcl : t * h % n = 0
              · have hcl' : ((t * h).tmod n == 0) = true := beq_int_t (tmod_iff.2 hcl)
                have hpl : planAt t h n j = some ⟨j, t * h / n / h, t * h / n % h⟩ := by unfold planAt; rw [if_pos hcl]
                have hsl : (plansTo t l n (j + 1)).length = (plansTo t l n j).length + 1 := by rw [hsu, hpl]; simp
                have hs1 : IntKind.i64.wrap (((plansTo t l n j).length : Int) + 1) = (((plansTo t l n j).length + 1 : Nat) : Int) := by rw [wrap_in (by omega) (by omega)]; omega
                simp (decide := true) (maxSteps := 4000000) only [go_sem, Nat.reduceAdd, Nat.reduceSub, Nat.reduceMul, Nat.reduceDiv, Nat.reduceMod, Nat.reduceLT, Nat.reduceLeDiff, Nat.reduceEqDiff, Nat.reduceBEq, Nat.reduceBNe, Nat.reduceGT, Int.reduceAdd, Int.reduceSub, Int.reduceMul, Int.reduceNeg, Int.reduceLT, Int.reduceLE, Int.reduceEq, Int.reduceNe, Int.reduceBEq, Int.reduceBNe, Int.reduceToNat, Int.reduceGT, Int.reduceGE, ↓reduceIte, decide_true, decide_false, eq_self, Nat.mul_one, Nat.zero_mul, Nat.one_mul, Int.le_refl, Nat.le_refl, Int.cast_ofNat_Int, hlj, hd, w4, hn0, hcl', hs1]
                refine hI2 _ ⟨j + 1, by omega⟩ (by simp only; omega) ?_
                simp (decide := true) (maxSteps := 4000000) only [go_sem, Nat.reduceAdd, Nat.reduceSub, Nat.reduceMul, Nat.reduceDiv, Nat.reduceMod, Nat.reduceLT, Nat.reduceLeDiff, Nat.reduceEqDiff, Nat.reduceBEq, Nat.reduceBNe, Nat.reduceGT, Int.reduceAdd, Int.reduceSub, Int.reduceMul, Int.reduceNeg, Int.reduceLT, Int.reduceLE, Int.reduceEq, Int.reduceNe, Int.reduceBEq, Int.reduceBNe, Int.reduceToNat, Int.reduceGT, Int.reduceGE, ↓reduceIte, decide_true, decide_false, eq_self, Nat.mul_one, Nat.zero_mul, Nat.one_mul, Int.le_refl, Nat.le_refl, Int.cast_ofNat_Int, hj1, hsl]
              · have hcl' : ((t * h).tmod n == 0) = false := beq_int_f (fun h => hcl (tmod_iff.1 h))
                have hpl : planAt t h n j = none := by unfold planAt; rw [if_neg hcl]
                have hsl : (plansTo t l n (j + 1)).length = (plansTo t l n j).length := by rw [hsu, hpl]; simp
                simp (decide := true) (maxSteps := 4000000) only [go_sem, Nat.reduceAdd, Nat.reduceSub, Nat.reduceMul, Nat.reduceDiv, Nat.reduceMod, Nat.reduceLT, Nat.reduceLeDiff, Nat.reduceEqDiff, Nat.reduceBEq, Nat.reduceBNe, Nat.reduceGT, Int.reduceAdd, Int.reduceSub, Int.reduceMul, Int.reduceNeg, Int.reduceLT, Int.reduceLE, Int.reduceEq, Int.reduceNe, Int.reduceBEq, Int.reduceBNe, Int.reduceToNat, Int.reduceGT, Int.reduceGE, ↓reduceIte, decide_true, decide_false, eq_self, Nat.mul_one, Nat.zero_mul, Nat.one_mul, Int.le_refl, Nat.le_refl, Int.cast_ofNat_Int, hlj, hd, w4, hn0, hcl']
                refine hI2 _ ⟨j + 1, by omega⟩ (by simp only; omega) ?_
                simp (decide := true) (maxSteps := 4000000) only [go_sem, Nat.reduceAdd, Nat.reduceSub, Nat.reduceMul, Nat.reduceDiv, Nat.reduceMod, Nat.reduceLT, Nat.reduceLeDiff, Nat.reduceEqDiff, Nat.reduceBEq, Nat.reduceBNe, Nat.reduceGT, Int.reduceAdd, Int.reduceSub, Int.reduceMul, Int.reduceNeg, Int.reduceLT, Int.reduceLE, Int.reduceEq, Int.reduceNe, Int.reduceBEq, Int.reduceBNe, Int.reduceToNat, Int.reduceGT, Int.reduceGE, ↓reduceIte, decide_true, decide_false, eq_self, Nat.mul_one, Nat.zero_mul, Nat.one_mul, Int.le_refl, Nat.le_refl, Int.cast_ofNat_Int, hj1, hsl]
            · have hje : l.length = j := by omega
              subst hje
              simp (decide := true) (maxSteps := 4000000) only [go_sem, Nat.reduceAdd, Nat.reduceSub, Nat.reduceMul, Nat.reduceDiv, Nat.reduceMod, Nat.reduceLT, Nat.reduceLeDiff, Nat.reduceEqDiff, Nat.reduceBEq, Nat.reduceBNe, Nat.reduceGT, Int.reduceAdd, Int.reduceSub, Int.reduceMul, Int.reduceNeg, Int.reduceLT, Int.reduceLE, Int.reduceEq, Int.reduceNe, Int.reduceBEq, Int.reduceBNe, Int.reduceToNat, Int.reduceGT, Int.reduceGE, ↓reduceIte, decide_true, decide_false, eq_self, Nat.mul_one, Nat.zero_mul, Nat.one_mul, Int.le_refl, Nat.le_refl, Int.cast_ofNat_Int, hlj]
              refine hQ2 _ _ ?_
              cases hcp : compP t l n with
              | none =>
                have hC : compE t l n = (⟨0, 0, 0, 0⟩, 4) := by unfold compE; rw [h1, h2, hcp]; rfl
                simp (decide := true) (maxSteps := 4000000) only [go_sem, Nat.reduceAdd, Nat.reduceSub, Nat.reduceMul, Nat.reduceDiv, Nat.reduceMod, Nat.reduceLT, Nat.reduceLeDiff, Nat.reduceEqDiff, Nat.reduceBEq, Nat.reduceBNe, Nat.reduceGT, Int.reduceAdd, Int.reduceSub, Int.reduceMul, Int.reduceNeg, Int.reduceLT, Int.reduceLE, Int.reduceEq, Int.reduceNe, Int.reduceBEq, Int.reduceBNe, Int.reduceToNat, Int.reduceGT, Int.reduceGE, ↓reduceIte, decide_true, decide_false, eq_self, Nat.mul_one, Nat.zero_mul, Nat.one_mul, Int.le_refl, Nat.le_refl, Int.cast_ofNat_Int, hL, hX, hC, bne_self_eq_false, beq_self_eq_true]
              | some r =>
                have hC : compE t l n = (r, 0) := by unfold compE; rw [h1, h2, hcp]; rfl
                obtain ⟨r1, r2, r3, r4⟩ := comp_closes (by omega) h1 hcp
                obtain ⟨ra, rb, rx, ry⟩ := r
                simp only at r1 r2 r3 r4
                obtain ⟨A, hA⟩ := Int.eq_ofNat_of_zero_le r1.1
                subst hA
                obtain ⟨B, hB⟩ := Int.eq_ofNat_of_zero_le (show 0 ≤ rb by omega)
                subst hB
                have hlA : (A : Int) < l.length := by omega
                have hlB : (B : Int) < l.length := r1.2.2
                obtain ⟨a, hxa⟩ := get_lt hlA
                have hda := ints_at hxa
                rw [Nat.mul_one] at hda
                have hna := nthI_at hxa
                have hba := head_at h1 hxa
                obtain ⟨b, hxb⟩ := get_lt hlB
                have hdb := ints_at hxb
                rw [Nat.mul_one] at hdb
                have hnb := nthI_at hxb
                have hbb := head_at h1 hxb
                rw [hna, hnb] at r4
                have wB : IntKind.i64.wrap ((B : Int) - 1) = (B : Int) - 1 := wrap_in (by omega) (by omega)
                have i1 : inB A 0 ((B : Int) - 1) = true := inB_iff.2 (by omega)
                have i2 : inB B 0 ((l.length : Int) - 1) = true := inB_iff.2 (by omega)
                have i3 : inB rx (-2000) 2000 = true := inB_iff.2 r2
                have i4 : inB ry (-2000) 2000 = true := inB_iff.2 r3
                have mx : -400000 ≤ rx * b ∧ rx * b ≤ 400000 := by
                  have h1 : rx * b ≤ 2000 * b := Int.mul_le_mul_of_nonneg_right r2.2 (by omega)
                  have h2 : -2000 * b ≤ rx * b := Int.mul_le_mul_of_nonneg_right r2.1 (by omega)
                  omega
                have my : -400000 ≤ ry * a ∧ ry * a ≤ 400000 := by
                  have h1 : ry * a ≤ 2000 * a := Int.mul_le_mul_of_nonneg_right r3.2 (by omega)
                  have h2 : -2000 * a ≤ ry * a := Int.mul_le_mul_of_nonneg_right r3.1 (by omega)
                  omega
                have m1 := mulB (a := t) (b := a) (A := 400) (B := 200) (by omega) (by omega) (by omega) (by omega)
                have m2 := mulB (a := t * a) (b := b) (A := 80000) (B := 200) m1.1 (by omega) (by omega) (by omega)
                have v1 : IntKind.i64.wrap (rx * b) = rx * b := wrap_in (by omega) (by omega)
                have v2 : IntKind.i64.wrap (ry * a) = ry * a := wrap_in (by omega) (by omega)
                have v3 : IntKind.i64.wrap (rx * b + ry * a) = rx * b + ry * a := wrap_in (by omega) (by omega)
                have v4 : IntKind.i64.wrap (t * a) = t * a := wrap_in (by omega) (by omega)
                have v5 : IntKind.i64.wrap (t * a * b) = t * a * b := wrap_in (by omega) (by omega)
                have v6 : IntKind.i64.wrap (n * (rx * b + ry * a)) = t * a * b := by rw [r4]; exact v5
                simp (decide := true) (maxSteps := 4000000) only [go_sem, Nat.reduceAdd, Nat.reduceSub, Nat.reduceMul, Nat.reduceDiv, Nat.reduceMod, Nat.reduceLT, Nat.reduceLeDiff, Nat.reduceEqDiff, Nat.reduceBEq, Nat.reduceBNe, Nat.reduceGT, Int.reduceAdd, Int.reduceSub, Int.reduceMul, Int.reduceNeg, Int.reduceLT, Int.reduceLE, Int.reduceEq, Int.reduceNe, Int.reduceBEq, Int.reduceBNe, Int.reduceToNat, Int.reduceGT, Int.reduceGE, ↓reduceIte, decide_true, decide_false, eq_self, Nat.mul_one, Nat.zero_mul, Nat.one_mul, Int.le_refl, Nat.le_refl, Int.cast_ofNat_Int, hL, hX, hC, bne_self_eq_false, beq_self_eq_true, wB, i1, wl, i2, i3, i4, hlA, hlB, hda, hdb, v1, v2, v3, v4, v5, v6]
end Go.Proofs.YtnoahnbjdapieaaDoor

/- Part Io. -/
namespace Go.Proofs.YtnoahnbjdapieaaDoor
open Go.RowKit Go.Pm Go.Oc
set_option maxRecDepth 100000
set_option linter.unusedVariables false

/-- The package-level variable holds what the rows say. -/
theorem ix_glob {w : World} (h : laidMetH Tryd.prog [("octant/index.noTrain", Rows.laid_octant_index_noTrain)] w) : GlobOk (allF w) := by
  rw [MakeChecks.laidMetH_plain _ _ _ (by kernel_rfl)] at h
  have hr := glob_ints (P := Tryd.prog) (name := "octant/index.noTrain") (ns := [-1, -1, -1, -1]) (w := w) h (g := 0) (t := 45) (e := 3) (by kernel_rfl) (by kernel_rfl) Tryd.underlying45 (by kernel_rfl) (by kernel_rfl) (by kernel_rfl) (by kernel_rfl) (by kernel_rfl)
  intro g cs hc
  match g, hc with
  | 0, hc =>
    have e : cs = [.int .i64 (-1), .int .i64 (-1), .int .i64 (-1), .int .i64 (-1)] := (Option.some.inj (show some _ = some cs from hc)).symm
    rw [e]; exact hr
  | g + 1, hc => cases hc
/-- The door's own heap meets it. -/
theorem ix_met (os : Os) (args : Array Value) : laidMetH Tryd.prog [("octant/index.noTrain", Rows.laid_octant_index_noTrain)] ((World.doorLaid Tryd.prog 14 os).forCall (fun _ _ => 0) ⟨#[], args, []⟩).memory :=
  laidMetH_of_parts3 (fuel := 8) (laidMet_of_run' 8 (by kernel_rfl) (by kernel_rfl)) (by kernel_rfl) (by kernel_rfl)
theorem ix_shaped (os : Os) (args : Array Value) : ((World.doorLaid Tryd.prog 14 os).forCall (fun _ _ => 0) ⟨#[], args, []⟩).Shaped Tryd.prog := World.shaped_of_RefB (by kernel_rfl) (by kernel_rfl)
end Go.Proofs.YtnoahnbjdapieaaDoor

/- Part Ir. -/
namespace Go.Oc
open Go Go.Pm
set_option maxRecDepth 100000
theorem placesTo_at (all n : Int) {m k : Nat} (h : k < m) : (placesTo all n m)[k]? = some (placeP all n k) := by
  unfold placesTo
  rw [List.getElem?_map, List.getElem?_range h]; rfl
end Go.Oc
namespace Go.Proofs.YtnoahnbjdapieaaDoor
open Go.RowKit Go.Pm Go.Oc
set_option maxRecDepth 100000
set_option linter.unusedVariables false
set_option maxHeartbeats 4000000

theorem IndexNearest_c (t : Int) {l : List Int} {s : TV} (hl : IsRow ic s l) (hll : l.length ≤ 17592186044415) (c n m0 m1 : Int) : PCalls Tryd.prog 9 [.agg [.int .i64 t, s], .int .i64 c, .int .i64 n, .agg [.int .i64 m0, .int .i64 m1]] (.bool true) := by
  have rI := rowI_is hl
  unfold rowL at rI
  have e0 : unI [] = some [] := rfl
  have hz : ∀ k : Int, ¬ k = 0 → cutE t l c n = ([], 0, k) → PCalls Tryd.prog 9 [.agg [.int .i64 t, s], .int .i64 c, .int .i64 n, .agg [.int .i64 m0, .int .i64 m1]] (.bool true) := by
    intro k hk hE
    have k1 : (k != 0) = true := bne_int_t hk
    have g1 : rowG ic [] = .nilSl := rfl
    refine pcalls_by Tryd.mixes spM1_ok (fn := Tryd.f9) Tryd.func9 rfl (by kernel_rfl) (by show 4 ≤ _; decide) ?_
    rcases hl with ⟨rfl, rfl⟩ | ⟨f, rfl⟩
    · simp only [e0] at rI
      simp (decide := true) (maxSteps := 4000000) only [go_sem, Nat.reduceAdd, Nat.reduceSub, Nat.reduceMul, Nat.reduceDiv, Nat.reduceMod, Nat.reduceLT, Nat.reduceLeDiff, Nat.reduceEqDiff, Nat.reduceBEq, Nat.reduceBNe, Nat.reduceGT, Int.reduceAdd, Int.reduceSub, Int.reduceMul, Int.reduceNeg, Int.reduceLT, Int.reduceLE, Int.reduceEq, Int.reduceNe, Int.reduceBEq, Int.reduceBNe, Int.reduceToNat, Int.reduceGT, Int.reduceGE, ↓reduceIte, decide_true, decide_false, eq_self, Nat.mul_one, Nat.zero_mul, Nat.one_mul, Int.le_refl, Nat.le_refl, Int.cast_ofNat_Int, Tryd.f9, e0, List.length_nil, hE, k1, g1]
    · simp (decide := true) (maxSteps := 4000000) only [go_sem, Nat.reduceAdd, Nat.reduceSub, Nat.reduceMul, Nat.reduceDiv, Nat.reduceMod, Nat.reduceLT, Nat.reduceLeDiff, Nat.reduceEqDiff, Nat.reduceBEq, Nat.reduceBNe, Nat.reduceGT, Int.reduceAdd, Int.reduceSub, Int.reduceMul, Int.reduceNeg, Int.reduceLT, Int.reduceLE, Int.reduceEq, Int.reduceNe, Int.reduceBEq, Int.reduceBNe, Int.reduceToNat, Int.reduceGT, Int.reduceGE, ↓reduceIte, decide_true, decide_false, eq_self, Nat.mul_one, Nat.zero_mul, Nat.one_mul, Int.le_refl, Nat.le_refl, Int.cast_ofNat_Int, Tryd.f9, rI, hll, hE, k1, g1]
  cases h1 : headOk t l with
  | false => exact hz 10 (by decide) (by unfold cutE; rw [if_pos h1])
  | true =>
  cases h2 : inB n 1 2000 with
  | false => exact hz 11 (by decide) (by unfold cutE; rw [h1, h2]; rfl)
  | true =>
  cases h3 : inB c 0 ((l.length : Int) - 1) with
  | false => exact hz 12 (by decide) (by unfold cutE; rw [h1, h2, h3]; rfl)
  | true =>
    clear hz
    have hh := headOk_iff.1 h1
    have hn := inB_iff.1 h2
    have hc := inB_iff.1 h3
    obtain ⟨f, rfl⟩ := hl.ne (by omega)
    rw [ic_ints] at rI ⊢
    simp only [unI_eq, if_true] at rI
    have wl : IntKind.i64.wrap ((l.length : Int) - 1) = (l.length : Int) - 1 := wrap_in (by omega) (by omega)
    obtain ⟨C, hC⟩ := Int.eq_ofNat_of_zero_le hc.1
    subst hC
    have hlc : (C : Int) < l.length := by omega
    obtain ⟨h, hx⟩ := get_lt hlc
    have hd := ints_at hx
    rw [Nat.mul_one] at hd
    have hA0 := allB0 h1 hx
    have hnx := nthI_at hx
    have w1 : IntKind.i64.wrap (t * h) = t * h := wrap_in (by omega) (by omega)
    obtain ⟨N, hN⟩ := Int.eq_ofNat_of_zero_le (show 0 ≤ n by omega)
    subst hN
    have hcut : cutE t l C N = (placesTo (t * h) N N, engrP (faultP (t * h) N) (N * (t * h)), 0) := by
      unfold cutE
      rw [h1, h2, h3, hnx]
      simp [placesTo]
    obtain ⟨A, hA⟩ : ∃ A, t * h = A := ⟨_, rfl⟩
    rw [hA] at w1 hA0 hcut
    have hf0 := faultTo_bound (all := A) (n := N) (by omega) N
    have hfN : faultP A N = faultTo A N N := by unfold faultP; rw [Int.toNat_natCast]
    have hNA := Int.mul_pos (show 0 < (N : Int) by omega) (show 0 < A by omega)
    have hsp := engr_spec (f := faultP A N) hNA
    have hen := engr_nonneg (f := faultP A N) hNA (by rw [hfN]; exact hf0.1)
    have hem := engr_most (f := faultP A N) (n := N) (all := A) (by omega) (by omega) (by rw [hfN]; exact hf0.2)
    have hez := engr_zero (all := A) (n := N) (by omega) (by omega)
    obtain ⟨E, hE⟩ : ∃ E, engrP (faultP A N) (N * A) = E := ⟨_, rfl⟩
    rw [hE] at hsp hen hem hez hcut
    rw [hfN] at hsp
    obtain ⟨F, hF⟩ : ∃ F, faultTo A N N = F := ⟨_, rfl⟩
    have er : rowG ic (placesTo A N N) = .sl (ints (placesTo A N N)) N false := by
      unfold rowG
      rw [ic_ints, placesTo_len, if_neg (by omega)]
    have hE1 : ¬ E < 0 := by omega
    have hE2 : ¬ E > 129600000 := by omega
    have pl := fun (k : Nat) (hk : k < N) => ints_at (placesTo_at A N hk)
    simp only [Nat.mul_one] at pl
    have pr := fun (k : Nat) (hk : k < N) => place_range (all := A) (n := N) (k := k) (by omega) (by omega) (by omega) (by omega)
    have hwd : ∀ k : Int, placeP A N k * N - k * A = wrongP A N k := fun _ => rfl
    have wP : ∀ k : Nat, k < N → IntKind.i64.wrap (placeP A N k * N) = placeP A N k * N ∧ IntKind.i64.wrap ((k : Int) * A) = (k : Int) * A ∧ IntKind.i64.wrap (wrongP A N k) = wrongP A N k ∧ IntKind.i64.wrap (0 - wrongP A N k) = -wrongP A N k := fun k hk => by
      have p := pr k hk
      have a := mulB (a := placeP A N k) (b := N) (A := 80000) (B := 2000) p.1 (by omega) (by omega) (by omega)
      have b := mulB (a := k) (b := A) (A := 2000) (B := 80000) (by omega) (by omega) (by omega) (by omega)
      have w := wrong_bound (all := A) (n := N) (k := k) (by omega)
      refine ⟨wrap_in (by omega) (by omega), wrap_in (by omega) (by omega), wrap_in (by omega) (by omega), ?_⟩
      rw [wrap_in (by omega) (by omega)]; omega
    refine pcalls_by Tryd.mixes spM1_ok (fn := Tryd.f9) Tryd.func9 rfl (by kernel_rfl) (by show 4 ≤ _; decide) ?_
    simp (decide := true) (maxSteps := 4000000) only [go_sem, Nat.reduceAdd, Nat.reduceSub, Nat.reduceMul, Nat.reduceDiv, Nat.reduceMod, Nat.reduceLT, Nat.reduceLeDiff, Nat.reduceEqDiff, Nat.reduceBEq, Nat.reduceBNe, Nat.reduceGT, Int.reduceAdd, Int.reduceSub, Int.reduceMul, Int.reduceNeg, Int.reduceLT, Int.reduceLE, Int.reduceEq, Int.reduceNe, Int.reduceBEq, Int.reduceBNe, Int.reduceToNat, Int.reduceGT, Int.reduceGE, ↓reduceIte, decide_true, decide_false, eq_self, Nat.mul_one, Nat.zero_mul, Nat.one_mul, Int.le_refl, Nat.le_refl, Int.cast_ofNat_Int, Tryd.f9, rI, unI_eq, hll, hcut, er, h1, h2, wl, h3, hlc, hd, hA, w1, hE1, hE2, bne_self_eq_false]
    refine pwpC_loopU (A := { k : Nat // k ≤ N }) [1, 2, 4, 7, 8, 9, 10, 11, 12] (fun k => [(14, .t (.int .i64 k.1)), (13, .t (.int .i64 (faultTo A N k.1)))]) (fun _ => []) (fun k => N - k.1) ⟨0, by omega⟩ (by decide) (fun _ => by rfl) ?_ fun Q1 hQ1 ⟨k, hk⟩ I1 hI1 => ?_
    · simp (decide := true) (maxSteps := 4000000) only [go_sem, Nat.reduceAdd, Nat.reduceSub, Nat.reduceMul, Nat.reduceDiv, Nat.reduceMod, Nat.reduceLT, Nat.reduceLeDiff, Nat.reduceEqDiff, Nat.reduceBEq, Nat.reduceBNe, Nat.reduceGT, Int.reduceAdd, Int.reduceSub, Int.reduceMul, Int.reduceNeg, Int.reduceLT, Int.reduceLE, Int.reduceEq, Int.reduceNe, Int.reduceBEq, Int.reduceBNe, Int.reduceToNat, Int.reduceGT, Int.reduceGE, ↓reduceIte, decide_true, decide_false, eq_self, Nat.mul_one, Nat.zero_mul, Nat.one_mul, Int.le_refl, Nat.le_refl, Int.cast_ofNat_Int, faultTo, List.range_zero, List.foldl_nil]
    · by_cases hlt : (k : Int) < N
      · have hkN : k < N := by omega
        have hk1 : IntKind.i64.wrap ((k : Int) + 1) = ((k + 1 : Nat) : Int) := by rw [wrap_in (by omega) (by omega)]; omega
        have d1 := pl k hkN
        have p1 := pr k hkN
        have b1 : inB (placeP A N k) 0 A = true := inB_iff.2 p1
        have ws := wP k hkN
        have hfu := faultTo_succ A N k
        have hmx : max (faultTo A N k) (max (wrongP A N k) (-wrongP A N k)) = faultTo A N (k + 1) := by rw [hfu]; rfl
        by_cases hk0 : k = 0
        · have g0 : ¬ (k : Int) > 0 := by omega
          have wk : IntKind.i64.wrap ((k : Int) - 1) = -1 := by rw [hk0]; rfl
          simp (decide := true) (maxSteps := 4000000) only [go_sem, Nat.reduceAdd, Nat.reduceSub, Nat.reduceMul, Nat.reduceDiv, Nat.reduceMod, Nat.reduceLT, Nat.reduceLeDiff, Nat.reduceEqDiff, Nat.reduceBEq, Nat.reduceBNe, Nat.reduceGT, Int.reduceAdd, Int.reduceSub, Int.reduceMul, Int.reduceNeg, Int.reduceLT, Int.reduceLE, Int.reduceEq, Int.reduceNe, Int.reduceBEq, Int.reduceBNe, Int.reduceToNat, Int.reduceGT, Int.reduceGE, ↓reduceIte, decide_true, decide_false, eq_self, Nat.mul_one, Nat.zero_mul, Nat.one_mul, Int.le_refl, Nat.le_refl, Int.cast_ofNat_Int, hlt, d1, b1, g0, wk, ws, hwd, hmx]
          refine hI1 _ ⟨k + 1, by omega⟩ (by simp only; omega) ?_
          simp (decide := true) (maxSteps := 4000000) only [go_sem, Nat.reduceAdd, Nat.reduceSub, Nat.reduceMul, Nat.reduceDiv, Nat.reduceMod, Nat.reduceLT, Nat.reduceLeDiff, Nat.reduceEqDiff, Nat.reduceBEq, Nat.reduceBNe, Nat.reduceGT, Int.reduceAdd, Int.reduceSub, Int.reduceMul, Int.reduceNeg, Int.reduceLT, Int.reduceLE, Int.reduceEq, Int.reduceNe, Int.reduceBEq, Int.reduceBNe, Int.reduceToNat, Int.reduceGT, Int.reduceGE, ↓reduceIte, decide_true, decide_false, eq_self, Nat.mul_one, Nat.zero_mul, Nat.one_mul, Int.le_refl, Nat.le_refl, Int.cast_ofNat_Int, hk1]
        · have g0 : (k : Int) > 0 := by omega
          obtain ⟨j, rfl⟩ : ∃ j, k = j + 1 := ⟨k - 1, by omega⟩
          have wk : IntKind.i64.wrap (((j + 1 : Nat) : Int) - 1) = (j : Int) := by rw [wrap_in (by omega) (by omega)]; omega
          have d2 := pl j (by omega)
          have hj : (j : Int) < N := by omega
          have hmo := place_mono (all := A) (n := N) (k := j) (by omega) (by omega)
          have g1 : ¬ placeP A N ((j + 1 : Nat) : Int) < placeP A N j := by rw [Int.natCast_add]; exact Int.not_lt.2 hmo
          simp (decide := true) (maxSteps := 4000000) only [go_sem, Nat.reduceAdd, Nat.reduceSub, Nat.reduceMul, Nat.reduceDiv, Nat.reduceMod, Nat.reduceLT, Nat.reduceLeDiff, Nat.reduceEqDiff, Nat.reduceBEq, Nat.reduceBNe, Nat.reduceGT, Int.reduceAdd, Int.reduceSub, Int.reduceMul, Int.reduceNeg, Int.reduceLT, Int.reduceLE, Int.reduceEq, Int.reduceNe, Int.reduceBEq, Int.reduceBNe, Int.reduceToNat, Int.reduceGT, Int.reduceGE, ↓reduceIte, decide_true, decide_false, eq_self, Nat.mul_one, Nat.zero_mul, Nat.one_mul, Int.le_refl, Nat.le_refl, Int.cast_ofNat_Int, hlt, d1, b1, g0, wk, d2, hj, g1, ws, hwd, hmx]
          refine hI1 _ ⟨j + 1 + 1, by omega⟩ (by simp only; omega) ?_
          simp (decide := true) (maxSteps := 4000000) only [go_sem, Nat.reduceAdd, Nat.reduceSub, Nat.reduceMul, Nat.reduceDiv, Nat.reduceMod, Nat.reduceLT, Nat.reduceLeDiff, Nat.reduceEqDiff, Nat.reduceBEq, Nat.reduceBNe, Nat.reduceGT, Int.reduceAdd, Int.reduceSub, Int.reduceMul, Int.reduceNeg, Int.reduceLT, Int.reduceLE, Int.reduceEq, Int.reduceNe, Int.reduceBEq, Int.reduceBNe, Int.reduceToNat, Int.reduceGT, Int.reduceGE, ↓reduceIte, decide_true, decide_false, eq_self, Nat.mul_one, Nat.zero_mul, Nat.one_mul, Int.le_refl, Nat.le_refl, Int.cast_ofNat_Int, hk1]
      · have hke : N = k := by omega
        subst hke
        have mE := mulB (a := E) (b := N) (A := 129600000) (B := 2000) hen (by omega) (by omega) (by omega)
        have mE2 := mulB (a := E * N) (b := A) (A := 259200000000) (B := 80000) mE.1 (by omega) (by omega) (by omega)
        rw [hF] at hsp hf0
        have v1 : IntKind.i64.wrap (F * 129600000) = F * 129600000 := wrap_in (by omega) (by omega)
        have v2 : IntKind.i64.wrap (E * N) = E * N := wrap_in (by omega) (by omega)
        have v3 : IntKind.i64.wrap (E * N * A) = E * N * A := wrap_in (by omega) (by omega)
        have a1 : E * N * A = E * (N * A) := Int.mul_assoc ..
        have a2 : (E - 1) * N * A = (E - 1) * (N * A) := Int.mul_assoc ..
        have a3 : (E - 1) * N = E * N - N := by rw [Int.sub_mul, Int.one_mul]
        have a4 : (E - 1) * N * A = E * N * A - N * A := by rw [a3, Int.sub_mul]
        have mNA := mulB (a := N) (b := A) (A := 2000) (B := 80000) (by omega) (by omega) (by omega) (by omega)
        have v4 : IntKind.i64.wrap (E - 1) = E - 1 := wrap_in (by omega) (by omega)
        have v5 : IntKind.i64.wrap ((E - 1) * N) = (E - 1) * N := by rw [a3]; exact wrap_in (by omega) (by omega)
        have v6 : IntKind.i64.wrap ((E - 1) * N * A) = (E - 1) * N * A := by rw [a4]; exact wrap_in (by omega) (by omega)
        have c1 : ¬ F * 129600000 > E * N * A := by rw [a1]; omega
        have c2 : ¬ F * 129600000 ≤ (E - 1) * N * A := by rw [a2]; omega
        have c3 : (E == 0) = (A.tmod N == 0) := by
          rw [Bool.eq_iff_iff, beq_iff_eq, beq_iff_eq, tmod_iff]; exact hez
        have hN0 : ¬ (N : Int) = 0 := by omega
        have cM : 0 < (N : Int) ∧ (N : Int) ≤ 9223372036854775807 := by omega
        have hK1 := Int.emod_nonneg m0 hN0
        have hK2 := Int.emod_lt_of_pos m0 (show 0 < (N : Int) by omega)
        obtain ⟨K, hK⟩ := Int.eq_ofNat_of_zero_le hK1
        have hK3 : (K : Int) < N := by omega
        have hKN : K < N := by omega
        have cC : (-9223372036854775808 ≤ (0 : Int) ∧ (0 : Int) ≤ 9223372036854775807) ∧ -9223372036854775808 ≤ A ∧ A ≤ 9223372036854775807 := by omega
        have hO := chosen_mem (lo := 0) (hi := A) m1 (by omega)
        obtain ⟨O, hOe⟩ : ∃ O, chosen 0 A m1 = O := ⟨_, rfl⟩
        rw [hOe] at hO
        have d1 := pl K hKN
        have ws := wP K hKN
        have mO := mulB (a := O) (b := N) (A := 80000) (B := 2000) hO.1 (by omega) (by omega) (by omega)
        have mK := mulB (a := K) (b := A) (A := 2000) (B := 80000) (by omega) (by omega) (by omega) (by omega)
        have u1 : IntKind.i64.wrap (O * N) = O * N := wrap_in (by omega) (by omega)
        obtain ⟨Y, hY⟩ : ∃ Y, O * N - K * A = Y := ⟨_, rfl⟩
        have u2 : IntKind.i64.wrap Y = Y := by rw [← hY]; exact wrap_in (by omega) (by omega)
        have u3 : IntKind.i64.wrap (0 - Y) = -Y := by rw [← hY, wrap_in (by omega) (by omega)]; omega
        have hnear := near (all := A) (n := N) (k := K) (by omega) O
        rw [hY] at hnear
        unfold absI at hnear
        obtain ⟨W, hW⟩ : ∃ W, wrongP A N K = W := ⟨_, rfl⟩
        rw [hW] at hnear ws
        have hwK := hwd K
        rw [hW] at hwK
        simp (decide := true) (maxSteps := 4000000) only [go_sem, Nat.reduceAdd, Nat.reduceSub, Nat.reduceMul, Nat.reduceDiv, Nat.reduceMod, Nat.reduceLT, Nat.reduceLeDiff, Nat.reduceEqDiff, Nat.reduceBEq, Nat.reduceBNe, Nat.reduceGT, Int.reduceAdd, Int.reduceSub, Int.reduceMul, Int.reduceNeg, Int.reduceLT, Int.reduceLE, Int.reduceEq, Int.reduceNe, Int.reduceBEq, Int.reduceBNe, Int.reduceToNat, Int.reduceGT, Int.reduceGE, ↓reduceIte, decide_true, decide_false, eq_self, Nat.mul_one, Nat.zero_mul, Nat.one_mul, Int.le_refl, Nat.le_refl, Int.cast_ofNat_Int, hlt]
        refine hQ1 _ _ ?_
        by_cases hE0 : E > 0
        · rcases hnear with hn1 | ⟨hn1, hn2⟩
          · simp (decide := true) (maxSteps := 4000000) only [go_sem, Nat.reduceAdd, Nat.reduceSub, Nat.reduceMul, Nat.reduceDiv, Nat.reduceMod, Nat.reduceLT, Nat.reduceLeDiff, Nat.reduceEqDiff, Nat.reduceBEq, Nat.reduceBNe, Nat.reduceGT, Int.reduceAdd, Int.reduceSub, Int.reduceMul, Int.reduceNeg, Int.reduceLT, Int.reduceLE, Int.reduceEq, Int.reduceNe, Int.reduceBEq, Int.reduceBNe, Int.reduceToNat, Int.reduceGT, Int.reduceGE, ↓reduceIte, decide_true, decide_false, eq_self, Nat.mul_one, Nat.zero_mul, Nat.one_mul, Int.le_refl, Nat.le_refl, Int.cast_ofNat_Int, hF, v1, v2, v3, v4, v5, v6, c1, c2, c3, hE0, hN0, bne_self_eq_false, cM, hK, cC, hOe, hK3, d1, ws, hwK, u1, hY, u2, u3, hn1]
          · have hn3 : ¬ max W (-W) < max Y (-Y) := by omega
            have hn4 : (max W (-W) == max Y (-Y)) = true := beq_int_t hn1
            simp (decide := true) (maxSteps := 4000000) only [go_sem, Nat.reduceAdd, Nat.reduceSub, Nat.reduceMul, Nat.reduceDiv, Nat.reduceMod, Nat.reduceLT, Nat.reduceLeDiff, Nat.reduceEqDiff, Nat.reduceBEq, Nat.reduceBNe, Nat.reduceGT, Int.reduceAdd, Int.reduceSub, Int.reduceMul, Int.reduceNeg, Int.reduceLT, Int.reduceLE, Int.reduceEq, Int.reduceNe, Int.reduceBEq, Int.reduceBNe, Int.reduceToNat, Int.reduceGT, Int.reduceGE, ↓reduceIte, decide_true, decide_false, eq_self, Nat.mul_one, Nat.zero_mul, Nat.one_mul, Int.le_refl, Nat.le_refl, Int.cast_ofNat_Int, hF, v1, v2, v3, v4, v5, v6, c1, c2, c3, hE0, hN0, bne_self_eq_false, cM, hK, cC, hOe, hK3, d1, ws, hwK, u1, hY, u2, u3, hn3, hn4, hn2]
        · rcases hnear with hn1 | ⟨hn1, hn2⟩
          · simp (decide := true) (maxSteps := 4000000) only [go_sem, Nat.reduceAdd, Nat.reduceSub, Nat.reduceMul, Nat.reduceDiv, Nat.reduceMod, Nat.reduceLT, Nat.reduceLeDiff, Nat.reduceEqDiff, Nat.reduceBEq, Nat.reduceBNe, Nat.reduceGT, Int.reduceAdd, Int.reduceSub, Int.reduceMul, Int.reduceNeg, Int.reduceLT, Int.reduceLE, Int.reduceEq, Int.reduceNe, Int.reduceBEq, Int.reduceBNe, Int.reduceToNat, Int.reduceGT, Int.reduceGE, ↓reduceIte, decide_true, decide_false, eq_self, Nat.mul_one, Nat.zero_mul, Nat.one_mul, Int.le_refl, Nat.le_refl, Int.cast_ofNat_Int, hF, v1, v2, v3, v4, v5, v6, c1, c3, hE0, hN0, bne_self_eq_false, cM, hK, cC, hOe, hK3, d1, ws, hwK, u1, hY, u2, u3, hn1]
          · have hn3 : ¬ max W (-W) < max Y (-Y) := by omega
            have hn4 : (max W (-W) == max Y (-Y)) = true := beq_int_t hn1
            simp (decide := true) (maxSteps := 4000000) only [go_sem, Nat.reduceAdd, Nat.reduceSub, Nat.reduceMul, Nat.reduceDiv, Nat.reduceMod, Nat.reduceLT, Nat.reduceLeDiff, Nat.reduceEqDiff, Nat.reduceBEq, Nat.reduceBNe, Nat.reduceGT, Int.reduceAdd, Int.reduceSub, Int.reduceMul, Int.reduceNeg, Int.reduceLT, Int.reduceLE, Int.reduceEq, Int.reduceNe, Int.reduceBEq, Int.reduceBNe, Int.reduceToNat, Int.reduceGT, Int.reduceGE, ↓reduceIte, decide_true, decide_false, eq_self, Nat.mul_one, Nat.zero_mul, Nat.one_mul, Int.le_refl, Nat.le_refl, Int.cast_ofNat_Int, hF, v1, v2, v3, v4, v5, v6, c1, c3, hE0, hN0, bne_self_eq_false, cM, hK, cC, hOe, hK3, d1, ws, hwK, u1, hY, u2, u3, hn3, hn4, hn2]
end Go.Proofs.YtnoahnbjdapieaaDoor
