/- What the claim leans on, text 6. -/
import Derived.Test.YtnoahnbjdapieaaDoorTie
import Derived.Test.YtnoahnbjdapieaaDoorCards
import Derived.LaidMore
import Derived.SevenTiedAt
import Derived.Test.YtnoahnbjdapieaaDoorC5
set_option linter.unusedSimpArgs false
set_option linter.unusedVariables false

/- Part Im0. -/
namespace Go.Proofs.YtnoahnbjdapieaaDoor
open Go.RowKit Go.Pm Go.Oc
set_option maxRecDepth 100000
set_option linter.unusedVariables false
set_option maxHeartbeats 4000000

theorem lSound_c (t : Int) {l : List Int} {s : TV} (hl : IsRow ic s l) (hll : l.length ≤ 17592186044415) : PCalls Tryd.prog 31 [.agg [.int .i64 t, s]] (.bool (headOk t l)) := by
  have rI := rowI_is hl
  unfold rowL at rI
  refine pcalls_by Tryd.mixes spK3_ok (fn := Tryd.f31) Tryd.func31 rfl (by kernel_rfl) (by show 1 ≤ _; decide) ?_
  rcases hl with ⟨rfl, rfl⟩ | ⟨f, rfl⟩
  · have h0 : headOk t [] = false := by simp [headOk, inB]
    have e0 : unI [] = some [] := rfl
    simp (decide := true) (maxSteps := 4000000) only [go_sem, Nat.reduceAdd, Nat.reduceSub, Nat.reduceMul, Nat.reduceDiv, Nat.reduceMod, Nat.reduceLT, Nat.reduceLeDiff, Nat.reduceEqDiff, Nat.reduceBEq, Nat.reduceBNe, Nat.reduceGT, Int.reduceAdd, Int.reduceSub, Int.reduceMul, Int.reduceNeg, Int.reduceLT, Int.reduceLE, Int.reduceEq, Int.reduceNe, Int.reduceBEq, Int.reduceBNe, Int.reduceToNat, Int.reduceGT, Int.reduceGE, ↓reduceIte, decide_true, decide_false, eq_self, Nat.mul_one, Nat.zero_mul, Nat.one_mul, Int.le_refl, Nat.le_refl, Int.cast_ofNat_Int, Tryd.f31, e0, h0, List.length_nil]
  · rw [ic_ints] at rI ⊢
    simp only [unI_eq, if_true] at rI
    cases h0 : headOk t l with
    | false => simp (decide := true) (maxSteps := 4000000) only [go_sem, Nat.reduceAdd, Nat.reduceSub, Nat.reduceMul, Nat.reduceDiv, Nat.reduceMod, Nat.reduceLT, Nat.reduceLeDiff, Nat.reduceEqDiff, Nat.reduceBEq, Nat.reduceBNe, Nat.reduceGT, Int.reduceAdd, Int.reduceSub, Int.reduceMul, Int.reduceNeg, Int.reduceLT, Int.reduceLE, Int.reduceEq, Int.reduceNe, Int.reduceBEq, Int.reduceBNe, Int.reduceToNat, Int.reduceGT, Int.reduceGE, ↓reduceIte, decide_true, decide_false, eq_self, Nat.mul_one, Nat.zero_mul, Nat.one_mul, Int.le_refl, Nat.le_refl, Int.cast_ofNat_Int, Tryd.f31, rI, unI_eq, hll, h0]
    | true =>
      have hh := headOk_iff.1 h0
      have h1 : inB (l.length : Int) 1 12 = true := inB_iff.2 (by omega)
      have h2 : inB t 1 400 = true := inB_iff.2 (by omega)
      simp (decide := true) (maxSteps := 4000000) only [go_sem, Nat.reduceAdd, Nat.reduceSub, Nat.reduceMul, Nat.reduceDiv, Nat.reduceMod, Nat.reduceLT, Nat.reduceLeDiff, Nat.reduceEqDiff, Nat.reduceBEq, Nat.reduceBNe, Nat.reduceGT, Int.reduceAdd, Int.reduceSub, Int.reduceMul, Int.reduceNeg, Int.reduceLT, Int.reduceLE, Int.reduceEq, Int.reduceNe, Int.reduceBEq, Int.reduceBNe, Int.reduceToNat, Int.reduceGT, Int.reduceGE, ↓reduceIte, decide_true, decide_false, eq_self, Nat.mul_one, Nat.zero_mul, Nat.one_mul, Int.le_refl, Nat.le_refl, Int.cast_ofNat_Int, Tryd.f31, rI, unI_eq, hll, h0, h1, h2]
noncomputable def xSound : List TV → Option TV
  | [.agg [.int .i64 t, s]] => match rowL unI s with
    | some l => if l.length ≤ 17592186044415 then some (.bool (headOk t l)) else none
    | none => none
  | _ => none
theorem xSound_ok : ∀ xs r, xSound xs = some r → PCalls Tryd.prog 31 xs r := by
  intro xs r h
  unfold xSound at h
  split at h
  · split at h
    · rename_i l hl
      have hl := rowL_some (un := unI) rfl (@unI_some) hl
      split at h
      · rename_i hc; cases h; exact lSound_c _ hl hc
      · cases h
    · cases h
  · cases h
attribute [go_sem] xSound
theorem lMoved_c (t : Int) {l : List Int} (f : Bool) (hll : l.length ≤ 12) {c k h : Int} (hc : 0 ≤ c ∧ c < l.length) (hk : 0 ≤ k ∧ k ≤ 400) (hh : 0 ≤ h ∧ h ≤ nthI l c - 1) (hn : nthI l c ≤ 200) :
    PCalls Tryd.prog 33 [.agg [.int .i64 t, .sl (ints l) l.length f], .agg [.int .i64 c, .int .i64 k, .int .i64 h]] (.int .i64 (k * nthI l c + h)) := by
  obtain ⟨C, hC⟩ := Int.eq_ofNat_of_zero_le hc.1
  subst hC
  obtain ⟨x, hx⟩ := get_lt hc.2
  have hd := ints_at hx
  rw [Nat.mul_one] at hd
  have hnx := nthI_at hx
  rw [hnx] at hh hn ⊢
  have hlc := hc.2
  have wl : IntKind.i64.wrap ((l.length : Int) - 1) = (l.length : Int) - 1 := wrap_in (by omega) (by omega)
  have b1 : inB C 0 ((l.length : Int) - 1) = true := inB_iff.2 (by omega)
  have b2 : inB k 0 400 = true := inB_iff.2 (by omega)
  have wx : IntKind.i64.wrap (x - 1) = x - 1 := wrap_in (by omega) (by omega)
  have b3 : inB h 0 (x - 1) = true := inB_iff.2 (by omega)
  have m := mulB (a := k) (b := x) (A := 400) (B := 200) hk.1 (by omega) hk.2 hn
  have w1 : IntKind.i64.wrap (k * x) = k * x := wrap_in (by omega) (by omega)
  have w2 : IntKind.i64.wrap (k * x + h) = k * x + h := wrap_in (by omega) (by omega)
  refine pcalls_by Tryd.mixes spK1_ok (fn := Tryd.f33) Tryd.func33 rfl (by kernel_rfl) (by show 2 ≤ _; decide) ?_
  simp (decide := true) (maxSteps := 4000000) only [go_sem, Nat.reduceAdd, Nat.reduceSub, Nat.reduceMul, Nat.reduceDiv, Nat.reduceMod, Nat.reduceLT, Nat.reduceLeDiff, Nat.reduceEqDiff, Nat.reduceBEq, Nat.reduceBNe, Nat.reduceGT, Int.reduceAdd, Int.reduceSub, Int.reduceMul, Int.reduceNeg, Int.reduceLT, Int.reduceLE, Int.reduceEq, Int.reduceNe, Int.reduceBEq, Int.reduceBNe, Int.reduceToNat, Int.reduceGT, Int.reduceGE, ↓reduceIte, decide_true, decide_false, eq_self, Nat.mul_one, Nat.zero_mul, Nat.one_mul, Int.le_refl, Nat.le_refl, Int.cast_ofNat_Int, Tryd.f33, wl, b1, b2, hlc, hd, wx, b3, w1, w2]
noncomputable def xMoved : List TV → Option TV
  | [.agg [.int .i64 t, .sl cs m f], .agg [.int .i64 c, .int .i64 k, .int .i64 h]] => match unI cs with
    | some l => if m = l.length ∧ l.length ≤ 12 ∧ (0 ≤ c ∧ c < l.length) ∧ (0 ≤ k ∧ k ≤ 400) ∧ (0 ≤ h ∧ h ≤ nthI l c - 1) ∧ nthI l c ≤ 200 then some (.int .i64 (k * nthI l c + h)) else none
    | none => none
  | _ => none
theorem xMoved_ok : ∀ xs r, xMoved xs = some r → PCalls Tryd.prog 33 xs r := by
  intro xs r h
  unfold xMoved at h
  split at h
  · rename_i t cs m f c k hh
    split at h
    · rename_i l hl
      split at h
      · rename_i hc; cases h
        obtain ⟨rfl, h0, h1, h2, h3, h4⟩ := hc
        have e := unI_some hl
        rw [ic_ints] at e
        subst e
        exact lMoved_c t f h0 h1 h2 h3 h4
      · cases h
    · cases h
  · cases h
attribute [go_sem] xMoved
theorem lRatio_c {st : List Int} (full : Bool) (hok : stockOk1 st = true) (a b c d : Int) : PCalls Tryd.prog 39 [.sl (ints st) st.length full, .agg [.int .i64 a, .int .i64 b, .int .i64 c, .int .i64 d]]
    (.tup [.int .i64 (ratioP st ⟨a, b, c, d⟩).1, .int .i64 (ratioP st ⟨a, b, c, d⟩).2.1, .bool (ratioP st ⟨a, b, c, d⟩).2.2]) := by
  have hok' := stockOk1_iff.1 hok
  have hb : ∀ {k : Nat} {x : Int}, st[k]? = some x → 0 ≤ x ∧ x ≤ 200 := fun h => by have := hok'.2 _ (List.mem_of_getElem? h); omega
  have wl : IntKind.i64.wrap ((st.length : Int) - 1) = (st.length : Int) - 1 := wrap_in (by omega) (by omega)
  have op : ∀ {x : Int}, inB x 0 ((st.length : Int) - 1) = true → ∃ (k : Nat) (y : Int), x = k ∧ (k : Int) < st.length ∧ (ints st).drop k = .int .i64 y :: ints (st.drop (k + 1)) ∧ nthI st k = y ∧ 0 ≤ y ∧ y ≤ 200 := fun {x} h => by
    have h := inB_iff.1 h
    obtain ⟨k, rfl⟩ := Int.eq_ofNat_of_zero_le h.1
    have hlt : (k : Int) < st.length := by omega
    obtain ⟨y, hy⟩ := get_lt hlt
    have hd := ints_at hy
    rw [Nat.mul_one] at hd
    exact ⟨k, y, rfl, hlt, hd, nthI_at hy, hb hy⟩
  refine pcalls_by Tryd.mixes spK1_ok (fn := Tryd.f39) Tryd.func39 rfl (by kernel_rfl) (by show 2 ≤ _; decide) ?_
  cases h1 : inB a 0 ((st.length : Int) - 1) with
  | false =>
    have hR : ratioP st ⟨a, b, c, d⟩ = (0, 0, false) := by simp [ratioP, h1]
    simp (decide := true) (maxSteps := 4000000) only [go_sem, Nat.reduceAdd, Nat.reduceSub, Nat.reduceMul, Nat.reduceDiv, Nat.reduceMod, Nat.reduceLT, Nat.reduceLeDiff, Nat.reduceEqDiff, Nat.reduceBEq, Nat.reduceBNe, Nat.reduceGT, Int.reduceAdd, Int.reduceSub, Int.reduceMul, Int.reduceNeg, Int.reduceLT, Int.reduceLE, Int.reduceEq, Int.reduceNe, Int.reduceBEq, Int.reduceBNe, Int.reduceToNat, Int.reduceGT, Int.reduceGE, ↓reduceIte, decide_true, decide_false, eq_self, Nat.mul_one, Nat.zero_mul, Nat.one_mul, Int.le_refl, Nat.le_refl, Int.cast_ofNat_Int, Tryd.f39, wl, h1, hR]
  | true =>
  cases h2 : inB b 0 ((st.length : Int) - 1) with
  | false =>
    have hR : ratioP st ⟨a, b, c, d⟩ = (0, 0, false) := by simp [ratioP, h1, h2]
    simp (decide := true) (maxSteps := 4000000) only [go_sem, Nat.reduceAdd, Nat.reduceSub, Nat.reduceMul, Nat.reduceDiv, Nat.reduceMod, Nat.reduceLT, Nat.reduceLeDiff, Nat.reduceEqDiff, Nat.reduceBEq, Nat.reduceBNe, Nat.reduceGT, Int.reduceAdd, Int.reduceSub, Int.reduceMul, Int.reduceNeg, Int.reduceLT, Int.reduceLE, Int.reduceEq, Int.reduceNe, Int.reduceBEq, Int.reduceBNe, Int.reduceToNat, Int.reduceGT, Int.reduceGE, ↓reduceIte, decide_true, decide_false, eq_self, Nat.mul_one, Nat.zero_mul, Nat.one_mul, Int.le_refl, Nat.le_refl, Int.cast_ofNat_Int, Tryd.f39, wl, h1, h2, hR]
  | true =>
  cases h3 : (a == b) with
  | true =>
    have hR : ratioP st ⟨a, b, c, d⟩ = (0, 0, false) := by simp [ratioP, h1, h2, h3]
    simp (decide := true) (maxSteps := 4000000) only [go_sem, Nat.reduceAdd, Nat.reduceSub, Nat.reduceMul, Nat.reduceDiv, Nat.reduceMod, Nat.reduceLT, Nat.reduceLeDiff, Nat.reduceEqDiff, Nat.reduceBEq, Nat.reduceBNe, Nat.reduceGT, Int.reduceAdd, Int.reduceSub, Int.reduceMul, Int.reduceNeg, Int.reduceLT, Int.reduceLE, Int.reduceEq, Int.reduceNe, Int.reduceBEq, Int.reduceBNe, Int.reduceToNat, Int.reduceGT, Int.reduceGE, ↓reduceIte, decide_true, decide_false, eq_self, Nat.mul_one, Nat.zero_mul, Nat.one_mul, Int.le_refl, Nat.le_refl, Int.cast_ofNat_Int, Tryd.f39, wl, h1, h2, h3, hR]
  | false =>
  obtain ⟨A, x, rfl, la, da, na, xa⟩ := op h1
  obtain ⟨B, y, rfl, lb, db, nb, yb⟩ := op h2
  cases h4 : (c == -1) with
  | true =>
    have hc : c = -1 := by simpa using h4
    have h6 : inB c 0 ((st.length : Int) - 1) = false := by rw [hc]; rfl
    cases h5 : (d == -1) with
    | true =>
      have hR : ratioP st ⟨A, B, c, d⟩ = (x, y, true) := by simp [ratioP, h1, h2, h3, h4, h5, na, nb]
      simp (decide := true) (maxSteps := 4000000) only [go_sem, Nat.reduceAdd, Nat.reduceSub, Nat.reduceMul, Nat.reduceDiv, Nat.reduceMod, Nat.reduceLT, Nat.reduceLeDiff, Nat.reduceEqDiff, Nat.reduceBEq, Nat.reduceBNe, Nat.reduceGT, Int.reduceAdd, Int.reduceSub, Int.reduceMul, Int.reduceNeg, Int.reduceLT, Int.reduceLE, Int.reduceEq, Int.reduceNe, Int.reduceBEq, Int.reduceBNe, Int.reduceToNat, Int.reduceGT, Int.reduceGE, ↓reduceIte, decide_true, decide_false, eq_self, Nat.mul_one, Nat.zero_mul, Nat.one_mul, Int.le_refl, Nat.le_refl, Int.cast_ofNat_Int, Tryd.f39, wl, h1, h2, h3, h4, h5, la, da, lb, db, hR]
    | false =>
      have hR : ratioP st ⟨A, B, c, d⟩ = (0, 0, false) := by simp [ratioP, h1, h2, h3, h4, h5, h6]
      simp (decide := true) (maxSteps := 4000000) only [go_sem, Nat.reduceAdd, Nat.reduceSub, Nat.reduceMul, Nat.reduceDiv, Nat.reduceMod, Nat.reduceLT, Nat.reduceLeDiff, Nat.reduceEqDiff, Nat.reduceBEq, Nat.reduceBNe, Nat.reduceGT, Int.reduceAdd, Int.reduceSub, Int.reduceMul, Int.reduceNeg, Int.reduceLT, Int.reduceLE, Int.reduceEq, Int.reduceNe, Int.reduceBEq, Int.reduceBNe, Int.reduceToNat, Int.reduceGT, Int.reduceGE, ↓reduceIte, decide_true, decide_false, eq_self, Nat.mul_one, Nat.zero_mul, Nat.one_mul, Int.le_refl, Nat.le_refl, Int.cast_ofNat_Int, Tryd.f39, wl, h1, h2, h3, h4, h5, h6, hR]
  | false =>
  cases h6 : inB c 0 ((st.length : Int) - 1) with
  | false =>
    have hR : ratioP st ⟨A, B, c, d⟩ = (0, 0, false) := by simp [ratioP, h1, h2, h3, h4, h6]
    simp (decide := true) (maxSteps := 4000000) only [go_sem, Nat.reduceAdd, Nat.reduceSub, Nat.reduceMul, Nat.reduceDiv, Nat.reduceMod, Nat.reduceLT, Nat.reduceLeDiff, Nat.reduceEqDiff, Nat.reduceBEq, Nat.reduceBNe, Nat.reduceGT, Int.reduceAdd, Int.reduceSub, Int.reduceMul, Int.reduceNeg, Int.reduceLT, Int.reduceLE, Int.reduceEq, Int.reduceNe, Int.reduceBEq, Int.reduceBNe, Int.reduceToNat, Int.reduceGT, Int.reduceGE, ↓reduceIte, decide_true, decide_false, eq_self, Nat.mul_one, Nat.zero_mul, Nat.one_mul, Int.le_refl, Nat.le_refl, Int.cast_ofNat_Int, Tryd.f39, wl, h1, h2, h3, h4, h6, hR]
  | true =>
  cases h7 : inB d 0 ((st.length : Int) - 1) with
  | false =>
    have hR : ratioP st ⟨A, B, c, d⟩ = (0, 0, false) := by simp [ratioP, h1, h2, h3, h4, h6, h7]
    simp (decide := true) (maxSteps := 4000000) only [go_sem, Nat.reduceAdd, Nat.reduceSub, Nat.reduceMul, Nat.reduceDiv, Nat.reduceMod, Nat.reduceLT, Nat.reduceLeDiff, Nat.reduceEqDiff, Nat.reduceBEq, Nat.reduceBNe, Nat.reduceGT, Int.reduceAdd, Int.reduceSub, Int.reduceMul, Int.reduceNeg, Int.reduceLT, Int.reduceLE, Int.reduceEq, Int.reduceNe, Int.reduceBEq, Int.reduceBNe, Int.reduceToNat, Int.reduceGT, Int.reduceGE, ↓reduceIte, decide_true, decide_false, eq_self, Nat.mul_one, Nat.zero_mul, Nat.one_mul, Int.le_refl, Nat.le_refl, Int.cast_ofNat_Int, Tryd.f39, wl, h1, h2, h3, h4, h6, h7, hR]
  | true =>
  cases h8 : (c == d) with
  | true =>
    have hR : ratioP st ⟨A, B, c, d⟩ = (0, 0, false) := by simp [ratioP, h1, h2, h3, h4, h6, h7, h8]
    simp (decide := true) (maxSteps := 4000000) only [go_sem, Nat.reduceAdd, Nat.reduceSub, Nat.reduceMul, Nat.reduceDiv, Nat.reduceMod, Nat.reduceLT, Nat.reduceLeDiff, Nat.reduceEqDiff, Nat.reduceBEq, Nat.reduceBNe, Nat.reduceGT, Int.reduceAdd, Int.reduceSub, Int.reduceMul, Int.reduceNeg, Int.reduceLT, Int.reduceLE, Int.reduceEq, Int.reduceNe, Int.reduceBEq, Int.reduceBNe, Int.reduceToNat, Int.reduceGT, Int.reduceGE, ↓reduceIte, decide_true, decide_false, eq_self, Nat.mul_one, Nat.zero_mul, Nat.one_mul, Int.le_refl, Nat.le_refl, Int.cast_ofNat_Int, Tryd.f39, wl, h1, h2, h3, h4, h6, h7, h8, hR]
  | false =>
  cases h9 : ((A : Int) == c) with
  | true =>
    have hR : ratioP st ⟨A, B, c, d⟩ = (0, 0, false) := by simp [ratioP, h1, h2, h3, h4, h6, h7, h8, h9]
    simp (decide := true) (maxSteps := 4000000) only [go_sem, Nat.reduceAdd, Nat.reduceSub, Nat.reduceMul, Nat.reduceDiv, Nat.reduceMod, Nat.reduceLT, Nat.reduceLeDiff, Nat.reduceEqDiff, Nat.reduceBEq, Nat.reduceBNe, Nat.reduceGT, Int.reduceAdd, Int.reduceSub, Int.reduceMul, Int.reduceNeg, Int.reduceLT, Int.reduceLE, Int.reduceEq, Int.reduceNe, Int.reduceBEq, Int.reduceBNe, Int.reduceToNat, Int.reduceGT, Int.reduceGE, ↓reduceIte, decide_true, decide_false, eq_self, Nat.mul_one, Nat.zero_mul, Nat.one_mul, Int.le_refl, Nat.le_refl, Int.cast_ofNat_Int, Tryd.f39, wl, h1, h2, h3, h4, h6, h7, h8, h9, hR]
  | false =>
  cases h10 : ((A : Int) == d) with
  | true =>
    have hR : ratioP st ⟨A, B, c, d⟩ = (0, 0, false) := by simp [ratioP, h1, h2, h3, h4, h6, h7, h8, h9, h10]
    simp (decide := true) (maxSteps := 4000000) only [go_sem, Nat.reduceAdd, Nat.reduceSub, Nat.reduceMul, Nat.reduceDiv, Nat.reduceMod, Nat.reduceLT, Nat.reduceLeDiff, Nat.reduceEqDiff, Nat.reduceBEq, Nat.reduceBNe, Nat.reduceGT, Int.reduceAdd, Int.reduceSub, Int.reduceMul, Int.reduceNeg, Int.reduceLT, Int.reduceLE, Int.reduceEq, Int.reduceNe, Int.reduceBEq, Int.reduceBNe, Int.reduceToNat, Int.reduceGT, Int.reduceGE, ↓reduceIte, decide_true, decide_false, eq_self, Nat.mul_one, Nat.zero_mul, Nat.one_mul, Int.le_refl, Nat.le_refl, Int.cast_ofNat_Int, Tryd.f39, wl, h1, h2, h3, h4, h6, h7, h8, h9, h10, hR]
  | false =>
  cases h11 : ((B : Int) == c) with
  | true =>
    have hR : ratioP st ⟨A, B, c, d⟩ = (0, 0, false) := by simp [ratioP, h1, h2, h3, h4, h6, h7, h8, h9, h10, h11]
    simp (decide := true) (maxSteps := 4000000) only [go_sem, Nat.reduceAdd, Nat.reduceSub, Nat.reduceMul, Nat.reduceDiv, Nat.reduceMod, Nat.reduceLT, Nat.reduceLeDiff, Nat.reduceEqDiff, Nat.reduceBEq, Nat.reduceBNe, Nat.reduceGT, Int.reduceAdd, Int.reduceSub, Int.reduceMul, Int.reduceNeg, Int.reduceLT, Int.reduceLE, Int.reduceEq, Int.reduceNe, Int.reduceBEq, Int.reduceBNe, Int.reduceToNat, Int.reduceGT, Int.reduceGE, ↓reduceIte, decide_true, decide_false, eq_self, Nat.mul_one, Nat.zero_mul, Nat.one_mul, Int.le_refl, Nat.le_refl, Int.cast_ofNat_Int, Tryd.f39, wl, h1, h2, h3, h4, h6, h7, h8, h9, h10, h11, hR]
  | false =>
  cases h12 : ((B : Int) == d) with
  | true =>
    have hR : ratioP st ⟨A, B, c, d⟩ = (0, 0, false) := by simp [ratioP, h1, h2, h3, h4, h6, h7, h8, h9, h10, h11, h12]
    simp (decide := true) (maxSteps := 4000000) only [go_sem, Nat.reduceAdd, Nat.reduceSub, Nat.reduceMul, Nat.reduceDiv, Nat.reduceMod, Nat.reduceLT, Nat.reduceLeDiff, Nat.reduceEqDiff, Nat.reduceBEq, Nat.reduceBNe, Nat.reduceGT, Int.reduceAdd, Int.reduceSub, Int.reduceMul, Int.reduceNeg, Int.reduceLT, Int.reduceLE, Int.reduceEq, Int.reduceNe, Int.reduceBEq, Int.reduceBNe, Int.reduceToNat, Int.reduceGT, Int.reduceGE, ↓reduceIte, decide_true, decide_false, eq_self, Nat.mul_one, Nat.zero_mul, Nat.one_mul, Int.le_refl, Nat.le_refl, Int.cast_ofNat_Int, Tryd.f39, wl, h1, h2, h3, h4, h6, h7, h8, h9, h10, h11, h12, hR]
  | false =>
  have hR : ratioP st ⟨A, B, c, d⟩ = (nthI st A * nthI st c, nthI st B * nthI st d, true) := by simp [ratioP, h1, h2, h3, h4, h6, h7, h8, h9, h10, h11, h12]
  obtain ⟨C, z, rfl, lc, dc, nc, zc⟩ := op h6
  obtain ⟨D, v, rfl, ld, dd, nd, vd⟩ := op h7
  rw [na, nb, nc, nd] at hR
  have m1 := mulB (a := x) (b := z) (A := 200) (B := 200) xa.1 zc.1 xa.2 zc.2
  have m2 := mulB (a := y) (b := v) (A := 200) (B := 200) yb.1 vd.1 yb.2 vd.2
  have w1 : IntKind.i64.wrap (x * z) = x * z := wrap_in (by omega) (by omega)
  have w2 : IntKind.i64.wrap (y * v) = y * v := wrap_in (by omega) (by omega)
  simp (decide := true) (maxSteps := 4000000) only [go_sem, Nat.reduceAdd, Nat.reduceSub, Nat.reduceMul, Nat.reduceDiv, Nat.reduceMod, Nat.reduceLT, Nat.reduceLeDiff, Nat.reduceEqDiff, Nat.reduceBEq, Nat.reduceBNe, Nat.reduceGT, Int.reduceAdd, Int.reduceSub, Int.reduceMul, Int.reduceNeg, Int.reduceLT, Int.reduceLE, Int.reduceEq, Int.reduceNe, Int.reduceBEq, Int.reduceBNe, Int.reduceToNat, Int.reduceGT, Int.reduceGE, ↓reduceIte, decide_true, decide_false, eq_self, Nat.mul_one, Nat.zero_mul, Nat.one_mul, Int.le_refl, Nat.le_refl, Int.cast_ofNat_Int, Tryd.f39, wl, h1, h2, h3, h4, h6, h7, h8, h9, h10, h11, h12, la, da, lb, db, lc, dc, ld, dd, w1, w2, hR]
noncomputable def xRatio : List TV → Option TV
  | [.sl cs n full, .agg [.int .i64 a, .int .i64 b, .int .i64 c, .int .i64 d]] => match unI cs with
    | some st => if n = st.length ∧ stockOk1 st = true then some (.tup [.int .i64 (ratioP st ⟨a, b, c, d⟩).1, .int .i64 (ratioP st ⟨a, b, c, d⟩).2.1, .bool (ratioP st ⟨a, b, c, d⟩).2.2]) else none
    | none => none
  | _ => none
theorem xRatio_ok : ∀ xs r, xRatio xs = some r → PCalls Tryd.prog 39 xs r := by
  intro xs r h
  unfold xRatio at h
  split at h
  · rename_i cs n full a b c d
    split at h
    · rename_i st hl
      split at h
      · rename_i hc; cases h
        obtain ⟨rfl, h0⟩ := hc
        have e := unI_some hl
        rw [ic_ints] at e
        subst e
        exact lRatio_c full h0 a b c d
      · cases h
    · cases h
  · cases h
attribute [go_sem] xRatio
noncomputable def spM1 : Pm.Spec := ((spK3.one 31 xSound).one 33 xMoved).one 39 xRatio
@[go_sem] theorem spM1_p (f : FuncId) (xs : List TV) : spM1.p f xs = Pm.Spec.p (((spK3.one 31 xSound).one 33 xMoved).one 39 xRatio) f xs := rfl
@[go_sem] theorem spM1_h (f : FuncId) (ps : List PV) (hl : List PO) : spM1.h f ps hl = Pm.Spec.h (((spK3.one 31 xSound).one 33 xMoved).one 39 xRatio) f ps hl := rfl
@[go_sem] theorem spM1_fz (f : FuncId) : spM1.fz f = Pm.Spec.fz (((spK3.one 31 xSound).one 33 xMoved).one 39 xRatio) f := rfl
@[go_sem] theorem spM1_fr (f : FuncId) : spM1.fr f = Pm.Spec.fr (((spK3.one 31 xSound).one 33 xMoved).one 39 xRatio) f := rfl
@[go_sem] theorem spM1_mu (t : TypeId) : spM1.mu t = Pm.Spec.mu (((spK3.one 31 xSound).one 33 xMoved).one 39 xRatio) t := rfl
theorem spM1_ok : SpecOk Tryd.prog spM1 := Spec.one_ok xRatio_ok (Spec.one_ok xMoved_ok (Spec.one_ok xSound_ok spK3_ok))
end Go.Proofs.YtnoahnbjdapieaaDoor

/- Part Ij2. -/
namespace Go.Proofs.YtnoahnbjdapieaaDoor
open Go.RowKit Go.Pm Go.Oc
set_option maxRecDepth 100000
set_option linter.unusedVariables false
set_option maxHeartbeats 4000000

theorem ratio_bound {st : List Int} (hok : stockOk1 st = true) {u : Tn} {P Q : Int} (h : ratioP st u = (P, Q, true)) : (0 ≤ P ∧ P ≤ 40000) ∧ 0 ≤ Q ∧ Q ≤ 40000 := by
  have hok' := stockOk1_iff.1 hok
  have op : ∀ {x : Int}, inB x 0 ((st.length : Int) - 1) = true → 0 ≤ nthI st x ∧ nthI st x ≤ 200 := fun {x} h => by
    have h := inB_iff.1 h
    have := hok'.2 _ (List.mem_of_getElem? (nthI_of (l := st) (c := x) (by omega) (by omega)))
    omega
  unfold ratioP at h
  split at h
  · cases h
  · rename_i h1
    simp only [Bool.or_eq_true, Bool.not_eq_true', not_or, Bool.not_eq_false, beq_iff_eq] at h1
    have a1 := op h1.1.1
    have a2 := op h1.1.2
    split at h
    · simp only [Prod.mk.injEq, and_true] at h
      omega
    · split at h
      · cases h
      · rename_i h3
        simp only [Bool.or_eq_true, Bool.not_eq_true', not_or, Bool.not_eq_false, beq_iff_eq] at h3
        have a3 := op h3.1.1.1.1.1.1
        have a4 := op h3.1.1.1.1.1.2
        have m1 := mulB (A := 200) (B := 200) a1.1 a3.1 a1.2 a3.2
        have m2 := mulB (A := 200) (B := 200) a2.1 a4.1 a2.2 a4.2
        simp only [Prod.mk.injEq, and_true] at h
        omega
theorem IndexTogether_c (t : Int) {l : List Int} {s : TV} (hl : IsRow ic s l) (hll : l.length ≤ 17592186044415) {st : List Int} {u : TV} (hs : IsRow ic u st) (hsl : st.length ≤ 17592186044415) (n : Int) : PCalls Tryd.prog 12 [.agg [.int .i64 t, s], u, .int .i64 n] (.bool true) := by
  have rI := rowI_is hl
  unfold rowL at rI
  have hz : ∀ k : Int, ¬ k = 0 → diffE t l st n = (⟨0, ⟨0, 0, 0⟩, ⟨0, 0, 0, 0⟩, false⟩, k) → PCalls Tryd.prog 12 [.agg [.int .i64 t, s], u, .int .i64 n] (.bool true) := by
    intro k hk hE
    have k1 : (k != 0) = true := bne_int_t hk
    have rS := rowI_is hs
    unfold rowL at rS
    refine pcalls_by Tryd.mixes spM1_ok (fn := Tryd.f12) Tryd.func12 rfl (by kernel_rfl) (by show 3 ≤ _; decide) ?_
    rcases hs with ⟨rfl, rfl⟩ | ⟨fs, rfl⟩
    · have e0 : unI [] = some [] := rfl
      simp only [e0] at rI
      simp (decide := true) (maxSteps := 4000000) only [go_sem, Nat.reduceAdd, Nat.reduceSub, Nat.reduceMul, Nat.reduceDiv, Nat.reduceMod, Nat.reduceLT, Nat.reduceLeDiff, Nat.reduceEqDiff, Nat.reduceBEq, Nat.reduceBNe, Nat.reduceGT, Int.reduceAdd, Int.reduceSub, Int.reduceMul, Int.reduceNeg, Int.reduceLT, Int.reduceLE, Int.reduceEq, Int.reduceNe, Int.reduceBEq, Int.reduceBNe, Int.reduceToNat, Int.reduceGT, Int.reduceGE, ↓reduceIte, decide_true, decide_false, eq_self, Nat.mul_one, Nat.zero_mul, Nat.one_mul, Int.le_refl, Nat.le_refl, Int.cast_ofNat_Int, Tryd.f12, rI, hll, e0, List.length_nil, hE, k1, Df.tv, Df.cs, Pl.cs, Tn.cs]
    · simp (decide := true) (maxSteps := 4000000) only [go_sem, Nat.reduceAdd, Nat.reduceSub, Nat.reduceMul, Nat.reduceDiv, Nat.reduceMod, Nat.reduceLT, Nat.reduceLeDiff, Nat.reduceEqDiff, Nat.reduceBEq, Nat.reduceBNe, Nat.reduceGT, Int.reduceAdd, Int.reduceSub, Int.reduceMul, Int.reduceNeg, Int.reduceLT, Int.reduceLE, Int.reduceEq, Int.reduceNe, Int.reduceBEq, Int.reduceBNe, Int.reduceToNat, Int.reduceGT, Int.reduceGE, ↓reduceIte, decide_true, decide_false, eq_self, Nat.mul_one, Nat.zero_mul, Nat.one_mul, Int.le_refl, Nat.le_refl, Int.cast_ofNat_Int, Tryd.f12, rI, hll, rS, hsl, hE, k1, Df.tv, Df.cs, Pl.cs, Tn.cs]
  cases h1 : headOk t l with
  | false => exact hz 10 (by decide) (by unfold diffE; rw [if_pos h1])
  | true =>
  cases h2 : inB n 1 2000 with
  | false => exact hz 11 (by decide) (by unfold diffE; rw [h1, h2]; rfl)
  | true =>
  cases h3 : stockOk1 st with
  | false => exact hz 13 (by decide) (by unfold diffE; rw [h1, h2, h3]; rfl)
  | true =>
  cases h4 : diffP t l st n with
  | none => exact hz 4 (by decide) (by unfold diffE; rw [h1, h2, h3, h4]; rfl)
  | some x =>
    have hE : diffE t l st n = (x, 0) := by unfold diffE; rw [h1, h2, h3, h4]; rfl
    have hh := headOk_iff.1 h1
    have hn := inB_iff.1 h2
    have hk := stockOk1_iff.1 h3
    obtain ⟨aside, a1, a2, a3, a4, a5, a6, a7⟩ := diff_some h4
    obtain ⟨M, ⟨pc, pt, ph⟩, ⟨ta, tb, tc, td⟩, on⟩ := x
    simp only at a3 a4 a5 a6 a7
    have hM := inB_iff.1 a4
    obtain ⟨b1, b2, b3, b4⟩ := plan_moves (by omega) h1 a5
    obtain ⟨P, Q, r1, r2⟩ := train_ratio a6
    obtain ⟨rb1, rb2⟩ := ratio_bound h3 r1
    simp only at b1 b2 b3 b4
    obtain ⟨f, rfl⟩ := hl.ne (by omega)
    obtain ⟨fs, rfl⟩ := hs.ne (by omega)
    rw [ic_ints] at rI ⊢
    rw [ic_ints]
    simp only [unI_eq, if_true] at rI
    obtain ⟨C, hC⟩ := Int.eq_ofNat_of_zero_le b1.1
    subst hC
    obtain ⟨h, hx⟩ := get_lt b1.2
    have hd := ints_at hx
    rw [Nat.mul_one] at hd
    have hnx := nthI_at hx
    have hb := head_at h1 hx
    have ht := together (n := n) (aside := aside) (by omega : 0 < M) b4 r2
    rw [hnx] at b3 b4 ht
    have hlc := b1.2
    have c1 : (l.length ≤ 12 ∧ ((0 : Int) ≤ (C : Int) ∧ (C : Int) < (l.length : Int)) ∧ (0 ≤ pt ∧ pt ≤ 400) ∧ (0 ≤ ph ∧ ph ≤ h - 1) ∧ h ≤ 200) := ⟨hh.2.1.2, ⟨by omega, hlc⟩, b2, b3, hb.2⟩
    have m0 := mulB (a := pt) (b := h) (A := 400) (B := 200) (by omega) (by omega) (by omega) (by omega)
    obtain ⟨m, hm⟩ : ∃ m, pt * h + ph = m := ⟨_, rfl⟩
    rw [hm] at b4 ht
    have hm0 : ¬ m < 0 := by omega
    have m1 := mulB (a := n) (b := m) (A := 2000) (B := 100000) (by omega) (by omega) (by omega) (by omega)
    have m2 := mulB (a := n * m) (b := Q) (A := 200000000) (B := 40000) (by omega) (by omega) (by omega) (by omega)
    have m3 := mulB (a := P) (b := h) (A := 40000) (B := 200) (by omega) (by omega) (by omega) (by omega)
    have m4 := mulB (a := t) (b := h) (A := 400) (B := 200) (by omega) (by omega) (by omega) (by omega)
    have m5 := mulB (a := t * h) (b := Q) (A := 80000) (B := 40000) (by omega) (by omega) (by omega) (by omega)
    have m6 := mulB (a := M) (b := m) (A := 20000) (B := 100000) (by omega) (by omega) (by omega) (by omega)
    have w1 : IntKind.i64.wrap (n * m) = n * m := wrap_in (by omega) (by omega)
    have w2 : IntKind.i64.wrap (n * m * Q) = n * m * Q := wrap_in (by omega) (by omega)
    have w3 : IntKind.i64.wrap (P * h) = P * h := wrap_in (by omega) (by omega)
    have w4 : IntKind.i64.wrap (t * h) = t * h := wrap_in (by omega) (by omega)
    have w5 : IntKind.i64.wrap (t * h * Q) = t * h * Q := wrap_in (by omega) (by omega)
    have w6 : IntKind.i64.wrap (M * m) = M * m := wrap_in (by omega) (by omega)
    have w7 : IntKind.i64.wrap (0 - P * h) = -(P * h) := by rw [wrap_in (by omega) (by omega)]; omega
    have w8 : IntKind.i64.wrap (M - n) = M - n := wrap_in (by omega) (by omega)
    have w9 : IntKind.i64.wrap (0 - (M - n)) = -(M - n) := by rw [wrap_in (by omega) (by omega)]; omega
    have hab : inB (max (M - n) (-(M - n))) 1 20 = true := inB_iff.2 (by omega)
    have hst : ¬ ((st.length : Nat) : Int) > 10 := by omega
    have eM : (M * m != t * h) = false := bne_int_f b4
    refine pcalls_by Tryd.mixes spM1_ok (fn := Tryd.f12) Tryd.func12 rfl (by kernel_rfl) (by show 3 ≤ _; decide) ?_
    cases hon : decide (M > n) with
    | true =>
      have hMn : M > n := by simpa using hon
      have hon' : on = true := by rw [a7]; exact hon
      subst hon'
      have e := ht.1 (by omega)
      have w10 : IntKind.i64.wrap (n * m * Q + P * h) = t * h * Q := by rw [wrap_in (by omega) (by omega)]; exact e
      simp (decide := true) (maxSteps := 4000000) only [go_sem, Nat.reduceAdd, Nat.reduceSub, Nat.reduceMul, Nat.reduceDiv, Nat.reduceMod, Nat.reduceLT, Nat.reduceLeDiff, Nat.reduceEqDiff, Nat.reduceBEq, Nat.reduceBNe, Nat.reduceGT, Int.reduceAdd, Int.reduceSub, Int.reduceMul, Int.reduceNeg, Int.reduceLT, Int.reduceLE, Int.reduceEq, Int.reduceNe, Int.reduceBEq, Int.reduceBNe, Int.reduceToNat, Int.reduceGT, Int.reduceGE, ↓reduceIte, decide_true, decide_false, eq_self, Nat.mul_one, Nat.zero_mul, Nat.one_mul, Int.le_refl, Nat.le_refl, Int.cast_ofNat_Int, Tryd.f12, rI, hll, unI_eq, hsl, hE, Df.tv, Df.cs, Pl.cs, Tn.cs, h1, h3, hst, a4, hnx, c1, hm, r1, hm0, w8, w9, hab, hMn, w6, w4, hlc, hd, eM, w3, w1, w2, w5, w10, beq_self_eq_true]
    | false =>
      have hMn : ¬ M > n := by simpa using hon
      have hon' : on = false := by rw [a7]; exact hon
      subst hon'
      have e := ht.2 (by omega)
      have w10 : IntKind.i64.wrap (n * m * Q + -(P * h)) = t * h * Q := by rw [wrap_in (by omega) (by omega)]; exact e
      simp (decide := true) (maxSteps := 4000000) only [go_sem, Nat.reduceAdd, Nat.reduceSub, Nat.reduceMul, Nat.reduceDiv, Nat.reduceMod, Nat.reduceLT, Nat.reduceLeDiff, Nat.reduceEqDiff, Nat.reduceBEq, Nat.reduceBNe, Nat.reduceGT, Int.reduceAdd, Int.reduceSub, Int.reduceMul, Int.reduceNeg, Int.reduceLT, Int.reduceLE, Int.reduceEq, Int.reduceNe, Int.reduceBEq, Int.reduceBNe, Int.reduceToNat, Int.reduceGT, Int.reduceGE, ↓reduceIte, decide_true, decide_false, eq_self, Nat.mul_one, Nat.zero_mul, Nat.one_mul, Int.le_refl, Nat.le_refl, Int.cast_ofNat_Int, Tryd.f12, rI, hll, unI_eq, hsl, hE, Df.tv, Df.cs, Pl.cs, Tn.cs, h1, h3, hst, a4, hnx, c1, hm, r1, hm0, w8, w9, hab, hMn, w6, w4, hlc, hd, eM, w3, w1, w2, w5, w7, w10, beq_self_eq_true]
end Go.Proofs.YtnoahnbjdapieaaDoor

/- Part Ik2. -/
namespace Go.Oc
open Go Go.Pm
set_option maxRecDepth 100000
theorem noHead {t : Int} {l : List Int} (h : headOk t l = false) : (∀ n, plansE t l n = ([], 10)) ∧ (∀ n, compE t l n = (⟨0, 0, 0, 0⟩, 10)) ∧ (∀ c n, cutE t l c n = ([], 0, 10)) ∧ (∀ n, bestE t l n = (0, 0, 10)) ∧ ∀ st n, diffE t l st n = (⟨0, ⟨0, 0, 0⟩, ⟨0, 0, 0, 0⟩, false⟩, 10) := by
  refine ⟨fun n => ?_, fun n => ?_, fun c n => ?_, fun n => ?_, fun st n => ?_⟩
  · unfold plansE; rw [if_pos h]
  · unfold compE; rw [if_pos h]
  · unfold cutE; rw [if_pos h]
  · unfold bestE; rw [if_pos h]
  · unfold diffE; rw [if_pos h]
theorem kn1 : plansE 40 [15, 18, 21] 20001 = ([], 11) := by decide +kernel
theorem kn2 : compE 40 [15, 18, 21] 0 = (⟨0, 0, 0, 0⟩, 11) := by decide +kernel
theorem kn3 : cutE 40 [15, 18, 21] 9 2001 = ([], 0, 11) := by decide +kernel
theorem kn4 : cutE 40 [15, 18, 21] 3 7 = ([], 0, 12) := by decide +kernel
theorem kn5 : bestE 40 [15, 18, 21] 2001 = (0, 0, 11) := by decide +kernel
theorem kn6 : diffE 40 [15, 18, 21] [] 2001 = (⟨0, ⟨0, 0, 0⟩, ⟨0, 0, 0, 0⟩, false⟩, 11) := by decide +kernel
theorem kn7 : diffE 40 [15, 18, 21] [20] 11 = (⟨0, ⟨0, 0, 0⟩, ⟨0, 0, 0, 0⟩, false⟩, 13) := by decide +kernel
theorem kn8 : trainE [20, 9] 1 2 = (⟨0, 0, 0, 0⟩, 13) := by decide +kernel
theorem kn9 : trainE [20, 30, 40, 60] 0 2 = (⟨0, 0, 0, 0⟩, 13) := by decide +kernel
theorem kn10 : trainE [20, 30, 40, 60] 1 100001 = (⟨0, 0, 0, 0⟩, 13) := by decide +kernel
theorem kn11 : plansE 40 [15, 18, 21] 11 = ([], 4) := by decide +kernel
theorem kn12 : compE 40 [15, 18, 21] 11 = (⟨0, 0, 0, 0⟩, 4) := by decide +kernel
theorem kn13 : diffE 40 [15, 18, 21] [20, 30, 40, 60] 12 = (⟨0, ⟨0, 0, 0⟩, ⟨0, 0, 0, 0⟩, false⟩, 4) := by decide +kernel
theorem kn14 : trainE [20, 30, 40, 60] 9 2 = (⟨0, 0, 0, 0⟩, 4) := by decide +kernel
theorem kn15 : plansE 40 [15, 18, 21] 28 = ([⟨2, 1, 9⟩], 0) := by decide +kernel
theorem kn16 : trainE [20, 30, 40, 60] 3 2 = (⟨1, 0, -1, -1⟩, 0) := by decide +kernel
theorem kn17 : bestE 40 [15, 18, 21] 7 = (2, 0, 0) := by decide +kernel
theorem kn18 : compE 40 [15] 1 = (⟨0, 0, 0, 0⟩, 4) := by decide +kernel
end Go.Oc
namespace Go.Proofs.YtnoahnbjdapieaaDoor
open Go.RowKit Go.Pm Go.Oc
set_option maxRecDepth 100000
set_option linter.unusedVariables false
set_option maxHeartbeats 8000000

noncomputable def spKn : Pm.Spec := spK2.one 21 xWorks
@[go_sem] theorem spKn_p (f : FuncId) (xs : List TV) : spKn.p f xs = Pm.Spec.p (spK2.one 21 xWorks) f xs := rfl
@[go_sem] theorem spKn_h (f : FuncId) (ps : List PV) (hl : List PO) : spKn.h f ps hl = Pm.Spec.h (spK2.one 21 xWorks) f ps hl := rfl
@[go_sem] theorem spKn_fz (f : FuncId) : spKn.fz f = Pm.Spec.fz (spK2.one 21 xWorks) f := rfl
@[go_sem] theorem spKn_fr (f : FuncId) : spKn.fr f = Pm.Spec.fr (spK2.one 21 xWorks) f := rfl
@[go_sem] theorem spKn_mu (t : TypeId) : spKn.mu t = Pm.Spec.mu (spK2.one 21 xWorks) t := rfl
theorem spKn_ok : SpecOk Tryd.prog spKn := Spec.one_ok xWorks_ok spK2_ok
theorem IndexKnown_c : PCalls Tryd.prog 13 [] (.bool true) := by
  have e0 : unI [] = some [] := rfl
  have e1 : unI [.int .i64 15, .int .i64 18, .int .i64 21] = some [15, 18, 21] := rfl
  have e2 : unI [.int .i64 20, .int .i64 30, .int .i64 40, .int .i64 60] = some [20, 30, 40, 60] := rfl
  have e3 : unI [.int .i64 15] = some [15] := rfl
  have e4 : unI [.int .i64 15, .int .i64 15] = some [15, 15] := rfl
  have e5 : unI [.int .i64 1, .int .i64 15] = some [1, 15] := rfl
  have e6 : unI [.int .i64 15, .int .i64 201] = some [15, 201] := rfl
  have e7 : unI [.int .i64 2, .int .i64 3, .int .i64 4, .int .i64 5, .int .i64 6, .int .i64 7, .int .i64 8, .int .i64 9, .int .i64 10, .int .i64 11, .int .i64 12, .int .i64 13, .int .i64 14] = some [2, 3, 4, 5, 6, 7, 8, 9, 10, 11, 12, 13, 14] := rfl
  have e8 : unI [.int .i64 20] = some [20] := rfl
  have e9 : unI [.int .i64 20, .int .i64 9] = some [20, 9] := rfl
  have g0 : rowF Pl.cs [] = .nilSl := rfl
  have g1 : rowG ic [] = .nilSl := rfl
  have g2 : rowF Pl.cs [⟨2, 1, 9⟩] = .sl [.int .i64 2, .int .i64 1, .int .i64 9] 1 true := rfl
  have g3 : unP [.int .i64 2, .int .i64 1, .int .i64 9] = some [⟨2, 1, 9⟩] := rfl
  refine pcalls_by Tryd.mixes spKn_ok (fn := Tryd.f13) Tryd.func13 rfl (by kernel_rfl) (by show 0 ≤ _; decide) ?_
  simp (decide := true) (maxSteps := 4000000) only [go_sem, Nat.reduceAdd, Nat.reduceSub, Nat.reduceMul, Nat.reduceDiv, Nat.reduceMod, Nat.reduceLT, Nat.reduceLeDiff, Nat.reduceEqDiff, Nat.reduceBEq, Nat.reduceBNe, Nat.reduceGT, Int.reduceAdd, Int.reduceSub, Int.reduceMul, Int.reduceNeg, Int.reduceLT, Int.reduceLE, Int.reduceEq, Int.reduceNe, Int.reduceBEq, Int.reduceBNe, Int.reduceToNat, Int.reduceGT, Int.reduceGE, ↓reduceIte, decide_true, decide_false, eq_self, Nat.mul_one, Nat.zero_mul, Nat.one_mul, Int.le_refl, Nat.le_refl, Int.cast_ofNat_Int, Tryd.f13]
  refine pwpC_loopU (A := { k : Nat // k ≤ 7 }) [0, 1] (fun k => [(2, .t (.int .i64 k.1))]) (fun _ => []) (fun k => 7 - k.1) ⟨0, by omega⟩ (by decide) (fun _ => by rfl) ?_ fun Q1 hQ1 ⟨k, hk⟩ I1 hI1 => ?_
  · simp (decide := true) (maxSteps := 4000000) only [go_sem, Nat.reduceAdd, Nat.reduceSub, Nat.reduceMul, Nat.reduceDiv, Nat.reduceMod, Nat.reduceLT, Nat.reduceLeDiff, Nat.reduceEqDiff, Nat.reduceBEq, Nat.reduceBNe, Nat.reduceGT, Int.reduceAdd, Int.reduceSub, Int.reduceMul, Int.reduceNeg, Int.reduceLT, Int.reduceLE, Int.reduceEq, Int.reduceNe, Int.reduceBEq, Int.reduceBNe, Int.reduceToNat, Int.reduceGT, Int.reduceGE, ↓reduceIte, decide_true, decide_false, eq_self, Nat.mul_one, Nat.zero_mul, Nat.one_mul, Int.le_refl, Nat.le_refl, Int.cast_ofNat_Int]
  · rcases (show k = 0 ∨ k = 1 ∨ k = 2 ∨ k = 3 ∨ k = 4 ∨ k = 5 ∨ k = 6 ∨ k = 7 by omega) with rfl | rfl | rfl | rfl | rfl | rfl | rfl | rfl
    · have no := noHead (t := 0) (l := []) (by decide)
      have hh : headOk 0 [] = false := by decide
      simp (decide := true) (maxSteps := 4000000) only [go_sem, Nat.reduceAdd, Nat.reduceSub, Nat.reduceMul, Nat.reduceDiv, Nat.reduceMod, Nat.reduceLT, Nat.reduceLeDiff, Nat.reduceEqDiff, Nat.reduceBEq, Nat.reduceBNe, Nat.reduceGT, Int.reduceAdd, Int.reduceSub, Int.reduceMul, Int.reduceNeg, Int.reduceLT, Int.reduceLE, Int.reduceEq, Int.reduceNe, Int.reduceBEq, Int.reduceBNe, Int.reduceToNat, Int.reduceGT, Int.reduceGE, ↓reduceIte, decide_true, decide_false, eq_self, Nat.mul_one, Nat.zero_mul, Nat.one_mul, Int.le_refl, Nat.le_refl, Int.cast_ofNat_Int, e0, e3, e4, e5, e6, e7, no, hh, g0, g1, List.length_cons, List.length_nil, Pr.tv, Pr.cs, Df.tv, Df.cs, Pl.cs, Tn.cs]
      refine hI1 _ ⟨1, by omega⟩ (by simp only; omega) ?_
      simp (decide := true) (maxSteps := 4000000) only [go_sem, Nat.reduceAdd, Nat.reduceSub, Nat.reduceMul, Nat.reduceDiv, Nat.reduceMod, Nat.reduceLT, Nat.reduceLeDiff, Nat.reduceEqDiff, Nat.reduceBEq, Nat.reduceBNe, Nat.reduceGT, Int.reduceAdd, Int.reduceSub, Int.reduceMul, Int.reduceNeg, Int.reduceLT, Int.reduceLE, Int.reduceEq, Int.reduceNe, Int.reduceBEq, Int.reduceBNe, Int.reduceToNat, Int.reduceGT, Int.reduceGE, ↓reduceIte, decide_true, decide_false, eq_self, Nat.mul_one, Nat.zero_mul, Nat.one_mul, Int.le_refl, Nat.le_refl, Int.cast_ofNat_Int]
    · have no := noHead (t := 40) (l := []) (by decide)
      have hh : headOk 40 [] = false := by decide
      simp (decide := true) (maxSteps := 4000000) only [go_sem, Nat.reduceAdd, Nat.reduceSub, Nat.reduceMul, Nat.reduceDiv, Nat.reduceMod, Nat.reduceLT, Nat.reduceLeDiff, Nat.reduceEqDiff, Nat.reduceBEq, Nat.reduceBNe, Nat.reduceGT, Int.reduceAdd, Int.reduceSub, Int.reduceMul, Int.reduceNeg, Int.reduceLT, Int.reduceLE, Int.reduceEq, Int.reduceNe, Int.reduceBEq, Int.reduceBNe, Int.reduceToNat, Int.reduceGT, Int.reduceGE, ↓reduceIte, decide_true, decide_false, eq_self, Nat.mul_one, Nat.zero_mul, Nat.one_mul, Int.le_refl, Nat.le_refl, Int.cast_ofNat_Int, e0, e3, e4, e5, e6, e7, no, hh, g0, g1, List.length_cons, List.length_nil, Pr.tv, Pr.cs, Df.tv, Df.cs, Pl.cs, Tn.cs]
      refine hI1 _ ⟨2, by omega⟩ (by simp only; omega) ?_
      simp (decide := true) (maxSteps := 4000000) only [go_sem, Nat.reduceAdd, Nat.reduceSub, Nat.reduceMul, Nat.reduceDiv, Nat.reduceMod, Nat.reduceLT, Nat.reduceLeDiff, Nat.reduceEqDiff, Nat.reduceBEq, Nat.reduceBNe, Nat.reduceGT, Int.reduceAdd, Int.reduceSub, Int.reduceMul, Int.reduceNeg, Int.reduceLT, Int.reduceLE, Int.reduceEq, Int.reduceNe, Int.reduceBEq, Int.reduceBNe, Int.reduceToNat, Int.reduceGT, Int.reduceGE, ↓reduceIte, decide_true, decide_false, eq_self, Nat.mul_one, Nat.zero_mul, Nat.one_mul, Int.le_refl, Nat.le_refl, Int.cast_ofNat_Int]
    · have no := noHead (t := 401) (l := [15]) (by decide)
      have hh : headOk 401 [15] = false := by decide
      simp (decide := true) (maxSteps := 4000000) only [go_sem, Nat.reduceAdd, Nat.reduceSub, Nat.reduceMul, Nat.reduceDiv, Nat.reduceMod, Nat.reduceLT, Nat.reduceLeDiff, Nat.reduceEqDiff, Nat.reduceBEq, Nat.reduceBNe, Nat.reduceGT, Int.reduceAdd, Int.reduceSub, Int.reduceMul, Int.reduceNeg, Int.reduceLT, Int.reduceLE, Int.reduceEq, Int.reduceNe, Int.reduceBEq, Int.reduceBNe, Int.reduceToNat, Int.reduceGT, Int.reduceGE, ↓reduceIte, decide_true, decide_false, eq_self, Nat.mul_one, Nat.zero_mul, Nat.one_mul, Int.le_refl, Nat.le_refl, Int.cast_ofNat_Int, e0, e3, e4, e5, e6, e7, no, hh, g0, g1, List.length_cons, List.length_nil, Pr.tv, Pr.cs, Df.tv, Df.cs, Pl.cs, Tn.cs]
      refine hI1 _ ⟨3, by omega⟩ (by simp only; omega) ?_
      simp (decide := true) (maxSteps := 4000000) only [go_sem, Nat.reduceAdd, Nat.reduceSub, Nat.reduceMul, Nat.reduceDiv, Nat.reduceMod, Nat.reduceLT, Nat.reduceLeDiff, Nat.reduceEqDiff, Nat.reduceBEq, Nat.reduceBNe, Nat.reduceGT, Int.reduceAdd, Int.reduceSub, Int.reduceMul, Int.reduceNeg, Int.reduceLT, Int.reduceLE, Int.reduceEq, Int.reduceNe, Int.reduceBEq, Int.reduceBNe, Int.reduceToNat, Int.reduceGT, Int.reduceGE, ↓reduceIte, decide_true, decide_false, eq_self, Nat.mul_one, Nat.zero_mul, Nat.one_mul, Int.le_refl, Nat.le_refl, Int.cast_ofNat_Int]
    · have no := noHead (t := 40) (l := [15, 15]) (by decide)
      have hh : headOk 40 [15, 15] = false := by decide
      simp (decide := true) (maxSteps := 4000000) only [go_sem, Nat.reduceAdd, Nat.reduceSub, Nat.reduceMul, Nat.reduceDiv, Nat.reduceMod, Nat.reduceLT, Nat.reduceLeDiff, Nat.reduceEqDiff, Nat.reduceBEq, Nat.reduceBNe, Nat.reduceGT, Int.reduceAdd, Int.reduceSub, Int.reduceMul, Int.reduceNeg, Int.reduceLT, Int.reduceLE, Int.reduceEq, Int.reduceNe, Int.reduceBEq, Int.reduceBNe, Int.reduceToNat, Int.reduceGT, Int.reduceGE, ↓reduceIte, decide_true, decide_false, eq_self, Nat.mul_one, Nat.zero_mul, Nat.one_mul, Int.le_refl, Nat.le_refl, Int.cast_ofNat_Int, e0, e3, e4, e5, e6, e7, no, hh, g0, g1, List.length_cons, List.length_nil, Pr.tv, Pr.cs, Df.tv, Df.cs, Pl.cs, Tn.cs]
      refine hI1 _ ⟨4, by omega⟩ (by simp only; omega) ?_
      simp (decide := true) (maxSteps := 4000000) only [go_sem, Nat.reduceAdd, Nat.reduceSub, Nat.reduceMul, Nat.reduceDiv, Nat.reduceMod, Nat.reduceLT, Nat.reduceLeDiff, Nat.reduceEqDiff, Nat.reduceBEq, Nat.reduceBNe, Nat.reduceGT, Int.reduceAdd, Int.reduceSub, Int.reduceMul, Int.reduceNeg, Int.reduceLT, Int.reduceLE, Int.reduceEq, Int.reduceNe, Int.reduceBEq, Int.reduceBNe, Int.reduceToNat, Int.reduceGT, Int.reduceGE, ↓reduceIte, decide_true, decide_false, eq_self, Nat.mul_one, Nat.zero_mul, Nat.one_mul, Int.le_refl, Nat.le_refl, Int.cast_ofNat_Int]
    · have no := noHead (t := 40) (l := [1, 15]) (by decide)
      have hh : headOk 40 [1, 15] = false := by decide
      simp (decide := true) (maxSteps := 4000000) only [go_sem, Nat.reduceAdd, Nat.reduceSub, Nat.reduceMul, Nat.reduceDiv, Nat.reduceMod, Nat.reduceLT, Nat.reduceLeDiff, Nat.reduceEqDiff, Nat.reduceBEq, Nat.reduceBNe, Nat.reduceGT, Int.reduceAdd, Int.reduceSub, Int.reduceMul, Int.reduceNeg, Int.reduceLT, Int.reduceLE, Int.reduceEq, Int.reduceNe, Int.reduceBEq, Int.reduceBNe, Int.reduceToNat, Int.reduceGT, Int.reduceGE, ↓reduceIte, decide_true, decide_false, eq_self, Nat.mul_one, Nat.zero_mul, Nat.one_mul, Int.le_refl, Nat.le_refl, Int.cast_ofNat_Int, e0, e3, e4, e5, e6, e7, no, hh, g0, g1, List.length_cons, List.length_nil, Pr.tv, Pr.cs, Df.tv, Df.cs, Pl.cs, Tn.cs]
      refine hI1 _ ⟨5, by omega⟩ (by simp only; omega) ?_
      simp (decide := true) (maxSteps := 4000000) only [go_sem, Nat.reduceAdd, Nat.reduceSub, Nat.reduceMul, Nat.reduceDiv, Nat.reduceMod, Nat.reduceLT, Nat.reduceLeDiff, Nat.reduceEqDiff, Nat.reduceBEq, Nat.reduceBNe, Nat.reduceGT, Int.reduceAdd, Int.reduceSub, Int.reduceMul, Int.reduceNeg, Int.reduceLT, Int.reduceLE, Int.reduceEq, Int.reduceNe, Int.reduceBEq, Int.reduceBNe, Int.reduceToNat, Int.reduceGT, Int.reduceGE, ↓reduceIte, decide_true, decide_false, eq_self, Nat.mul_one, Nat.zero_mul, Nat.one_mul, Int.le_refl, Nat.le_refl, Int.cast_ofNat_Int]
    · have no := noHead (t := 40) (l := [15, 201]) (by decide)
      have hh : headOk 40 [15, 201] = false := by decide
      simp (decide := true) (maxSteps := 4000000) only [go_sem, Nat.reduceAdd, Nat.reduceSub, Nat.reduceMul, Nat.reduceDiv, Nat.reduceMod, Nat.reduceLT, Nat.reduceLeDiff, Nat.reduceEqDiff, Nat.reduceBEq, Nat.reduceBNe, Nat.reduceGT, Int.reduceAdd, Int.reduceSub, Int.reduceMul, Int.reduceNeg, Int.reduceLT, Int.reduceLE, Int.reduceEq, Int.reduceNe, Int.reduceBEq, Int.reduceBNe, Int.reduceToNat, Int.reduceGT, Int.reduceGE, ↓reduceIte, decide_true, decide_false, eq_self, Nat.mul_one, Nat.zero_mul, Nat.one_mul, Int.le_refl, Nat.le_refl, Int.cast_ofNat_Int, e0, e3, e4, e5, e6, e7, no, hh, g0, g1, List.length_cons, List.length_nil, Pr.tv, Pr.cs, Df.tv, Df.cs, Pl.cs, Tn.cs]
      refine hI1 _ ⟨6, by omega⟩ (by simp only; omega) ?_
      simp (decide := true) (maxSteps := 4000000) only [go_sem, Nat.reduceAdd, Nat.reduceSub, Nat.reduceMul, Nat.reduceDiv, Nat.reduceMod, Nat.reduceLT, Nat.reduceLeDiff, Nat.reduceEqDiff, Nat.reduceBEq, Nat.reduceBNe, Nat.reduceGT, Int.reduceAdd, Int.reduceSub, Int.reduceMul, Int.reduceNeg, Int.reduceLT, Int.reduceLE, Int.reduceEq, Int.reduceNe, Int.reduceBEq, Int.reduceBNe, Int.reduceToNat, Int.reduceGT, Int.reduceGE, ↓reduceIte, decide_true, decide_false, eq_self, Nat.mul_one, Nat.zero_mul, Nat.one_mul, Int.le_refl, Nat.le_refl, Int.cast_ofNat_Int]
    · have no := noHead (t := 40) (l := [2, 3, 4, 5, 6, 7, 8, 9, 10, 11, 12, 13, 14]) (by decide)
      have hh : headOk 40 [2, 3, 4, 5, 6, 7, 8, 9, 10, 11, 12, 13, 14] = false := by decide
      simp (decide := true) (maxSteps := 4000000) only [go_sem, Nat.reduceAdd, Nat.reduceSub, Nat.reduceMul, Nat.reduceDiv, Nat.reduceMod, Nat.reduceLT, Nat.reduceLeDiff, Nat.reduceEqDiff, Nat.reduceBEq, Nat.reduceBNe, Nat.reduceGT, Int.reduceAdd, Int.reduceSub, Int.reduceMul, Int.reduceNeg, Int.reduceLT, Int.reduceLE, Int.reduceEq, Int.reduceNe, Int.reduceBEq, Int.reduceBNe, Int.reduceToNat, Int.reduceGT, Int.reduceGE, ↓reduceIte, decide_true, decide_false, eq_self, Nat.mul_one, Nat.zero_mul, Nat.one_mul, Int.le_refl, Nat.le_refl, Int.cast_ofNat_Int, e0, e3, e4, e5, e6, e7, no, hh, g0, g1, List.length_cons, List.length_nil, Pr.tv, Pr.cs, Df.tv, Df.cs, Pl.cs, Tn.cs]
      refine hI1 _ ⟨7, by omega⟩ (by simp only; omega) ?_
      simp (decide := true) (maxSteps := 4000000) only [go_sem, Nat.reduceAdd, Nat.reduceSub, Nat.reduceMul, Nat.reduceDiv, Nat.reduceMod, Nat.reduceLT, Nat.reduceLeDiff, Nat.reduceEqDiff, Nat.reduceBEq, Nat.reduceBNe, Nat.reduceGT, Int.reduceAdd, Int.reduceSub, Int.reduceMul, Int.reduceNeg, Int.reduceLT, Int.reduceLE, Int.reduceEq, Int.reduceNe, Int.reduceBEq, Int.reduceBNe, Int.reduceToNat, Int.reduceGT, Int.reduceGE, ↓reduceIte, decide_true, decide_false, eq_self, Nat.mul_one, Nat.zero_mul, Nat.one_mul, Int.le_refl, Nat.le_refl, Int.cast_ofNat_Int]
    · simp (decide := true) (maxSteps := 4000000) only [go_sem, Nat.reduceAdd, Nat.reduceSub, Nat.reduceMul, Nat.reduceDiv, Nat.reduceMod, Nat.reduceLT, Nat.reduceLeDiff, Nat.reduceEqDiff, Nat.reduceBEq, Nat.reduceBNe, Nat.reduceGT, Int.reduceAdd, Int.reduceSub, Int.reduceMul, Int.reduceNeg, Int.reduceLT, Int.reduceLE, Int.reduceEq, Int.reduceNe, Int.reduceBEq, Int.reduceBNe, Int.reduceToNat, Int.reduceGT, Int.reduceGE, ↓reduceIte, decide_true, decide_false, eq_self, Nat.mul_one, Nat.zero_mul, Nat.one_mul, Int.le_refl, Nat.le_refl, Int.cast_ofNat_Int]
      refine hQ1 _ _ ?_
      simp (decide := true) (maxSteps := 4000000) only [go_sem, Nat.reduceAdd, Nat.reduceSub, Nat.reduceMul, Nat.reduceDiv, Nat.reduceMod, Nat.reduceLT, Nat.reduceLeDiff, Nat.reduceEqDiff, Nat.reduceBEq, Nat.reduceBNe, Nat.reduceGT, Int.reduceAdd, Int.reduceSub, Int.reduceMul, Int.reduceNeg, Int.reduceLT, Int.reduceLE, Int.reduceEq, Int.reduceNe, Int.reduceBEq, Int.reduceBNe, Int.reduceToNat, Int.reduceGT, Int.reduceGE, ↓reduceIte, decide_true, decide_false, eq_self, Nat.mul_one, Nat.zero_mul, Nat.one_mul, Int.le_refl, Nat.le_refl, Int.cast_ofNat_Int, e0, e1, e2, e3, e8, e9, kn1, kn2, kn3, kn4, kn5, kn6, kn7, kn8, kn9, kn10, kn11, kn12, kn13, kn14, kn15, kn16, kn17, kn18, g0, g1, g2, g3, List.length_cons, List.length_nil, Pr.tv, Pr.cs, Df.tv, Df.cs, Pl.cs, Tn.tv, Tn.cs]
end Go.Proofs.YtnoahnbjdapieaaDoor

/- Part Io. -/
namespace Go.Proofs.YtnoahnbjdapieaaDoor
open Go.RowKit Go.Pm Go.Oc
set_option maxRecDepth 100000
set_option linter.unusedVariables false

/-- The package-level variable holds what the rows say. -/
theorem ix_glob {w : World} (h : laidMetH Tryd.prog [("octant/index.noTrain", Rows.laid_octant_index_noTrain)] w) : GlobOk (allF w) := by
  rw [MakeChecks.laidMetH_plain _ _ _ (by kernel_rfl)] at h
  have hr := glob_ints (P := Tryd.prog) (name := "octant/index.noTrain") (ns := [-1, -1, -1, -1]) (w := w) h (g := 0) (t := 45) (e := 3) (by kernel_rfl) (by kernel_rfl) Tryd.underlying45 (by kernel_rfl) (by kernel_rfl) (by kernel_rfl) (by kernel_rfl) (by kernel_rfl)
  intro g cs hc
  match g, hc with
  | 0, hc =>
    have e : cs = [.int .i64 (-1), .int .i64 (-1), .int .i64 (-1), .int .i64 (-1)] := (Option.some.inj (show some _ = some cs from hc)).symm
    rw [e]; exact hr
  | g + 1, hc => cases hc
/-- The door's own heap meets it. -/
theorem ix_met (os : Os) (args : Array Value) : laidMetH Tryd.prog [("octant/index.noTrain", Rows.laid_octant_index_noTrain)] ((World.doorLaid Tryd.prog 14 os).forCall (fun _ _ => 0) ⟨#[], args, []⟩).memory :=
  laidMetH_of_parts3 (fuel := 8) (laidMet_of_run' 8 (by kernel_rfl) (by kernel_rfl)) (by kernel_rfl) (by kernel_rfl)
theorem ix_shaped (os : Os) (args : Array Value) : ((World.doorLaid Tryd.prog 14 os).forCall (fun _ _ => 0) ⟨#[], args, []⟩).Shaped Tryd.prog := World.shaped_of_RefB (by kernel_rfl) (by kernel_rfl)
end Go.Proofs.YtnoahnbjdapieaaDoor

/- Part It. -/
namespace Go.Proofs.YtnoahnbjdapieaaDoor
open Go.RowKit Go.Pm Go.Oc
set_option maxRecDepth 100000
set_option linter.unusedVariables false
set_option maxHeartbeats 8000000

theorem ratio_pos {st : List Int} (hok : stockOk1 st = true) {u : Tn} {P Q : Int} (h : ratioP st u = (P, Q, true)) : 1 ≤ P ∧ 1 ≤ Q := by
  have hok' := stockOk1_iff.1 hok
  have op : ∀ {x : Int}, inB x 0 ((st.length : Int) - 1) = true → 0 < nthI st x := fun {x} h => by
    have h := inB_iff.1 h
    have := hok'.2 _ (List.mem_of_getElem? (nthI_of (l := st) (c := x) (by omega) (by omega)))
    omega
  unfold ratioP at h
  split at h
  · cases h
  · rename_i h1
    simp only [Bool.or_eq_true, Bool.not_eq_true', not_or, Bool.not_eq_false, beq_iff_eq] at h1
    have a1 := op h1.1.1
    have a2 := op h1.1.2
    split at h
    · simp only [Prod.mk.injEq, and_true] at h
      omega
    · split at h
      · cases h
      · rename_i h3
        simp only [Bool.or_eq_true, Bool.not_eq_true', not_or, Bool.not_eq_false, beq_iff_eq] at h3
        have m1 := Int.mul_pos a1 (op h3.1.1.1.1.1.1)
        have m2 := Int.mul_pos a2 (op h3.1.1.1.1.1.2)
        simp only [Prod.mk.injEq, and_true] at h
        omega
theorem trainE_ok {st : List Int} {p q : Int} (h1 : stockOk1 st = true) (h2 : 1 ≤ p ∧ p ≤ 100000) (h3 : 1 ≤ q ∧ q ≤ 100000) : trainE st p q = match trainP st p q with
    | none => (⟨0, 0, 0, 0⟩, 4)
    | some t => (t, 0) := by
  unfold trainE
  rw [h1, inB_iff.2 h2, inB_iff.2 h3]; rfl
theorem trainE_no {st : List Int} {p q : Int} (h : ¬ (p ≤ 100000 ∧ q ≤ 100000)) : trainE st p q = (⟨0, 0, 0, 0⟩, 13) := by
  have : (stockOk1 st && inB p 1 100000 && inB q 1 100000) = false := by
    rw [Bool.eq_false_iff]
    intro hh
    simp only [Bool.and_eq_true, inB_iff] at hh
    omega
  unfold trainE
  rw [if_pos this]
theorem IndexWheels_c {st : List Int} {u : TV} (hs : IsRow ic u st) (hsl : st.length ≤ 17592186044415) (p q m0 m1 m2 m3 m4 : Int) : PCalls Tryd.prog 11 [u, .agg [.int .i64 p, .int .i64 q], .agg [.int .i64 m0, .int .i64 m1, .int .i64 m2, .int .i64 m3, .int .i64 m4]] (.bool true) := by
  have rI := rowI_is hs
  unfold rowL at rI
  refine pcalls_by Tryd.mixes spM1_ok (fn := Tryd.f11) Tryd.func11 rfl (by kernel_rfl) (by show 3 ≤ _; decide) ?_
  cases hk0 : (stockOk1 st && inB p 1 100000 && inB q 1 100000) with
  | false =>
    have hE : trainE st p q = (⟨0, 0, 0, 0⟩, 13) := by unfold trainE; rw [if_pos hk0]
    have hF : trainE st q p = (⟨0, 0, 0, 0⟩, 13) := by unfold trainE; rw [if_pos]; rw [← hk0, Bool.and_assoc, Bool.and_assoc, Bool.and_comm (inB q 1 100000)]
    rcases hs with ⟨rfl, rfl⟩ | ⟨f, rfl⟩
    · have e0 : unI [] = some [] := rfl
      simp (decide := true) (maxSteps := 4000000) only [go_sem, Nat.reduceAdd, Nat.reduceSub, Nat.reduceMul, Nat.reduceDiv, Nat.reduceMod, Nat.reduceLT, Nat.reduceLeDiff, Nat.reduceEqDiff, Nat.reduceBEq, Nat.reduceBNe, Nat.reduceGT, Int.reduceAdd, Int.reduceSub, Int.reduceMul, Int.reduceNeg, Int.reduceLT, Int.reduceLE, Int.reduceEq, Int.reduceNe, Int.reduceBEq, Int.reduceBNe, Int.reduceToNat, Int.reduceGT, Int.reduceGE, ↓reduceIte, decide_true, decide_false, eq_self, Nat.mul_one, Nat.zero_mul, Nat.one_mul, Int.le_refl, Nat.le_refl, Int.cast_ofNat_Int, Tryd.f11, e0, List.length_nil, hE, hF, Tn.tv, Tn.cs]
    · simp (decide := true) (maxSteps := 4000000) only [go_sem, Nat.reduceAdd, Nat.reduceSub, Nat.reduceMul, Nat.reduceDiv, Nat.reduceMod, Nat.reduceLT, Nat.reduceLeDiff, Nat.reduceEqDiff, Nat.reduceBEq, Nat.reduceBNe, Nat.reduceGT, Int.reduceAdd, Int.reduceSub, Int.reduceMul, Int.reduceNeg, Int.reduceLT, Int.reduceLE, Int.reduceEq, Int.reduceNe, Int.reduceBEq, Int.reduceBNe, Int.reduceToNat, Int.reduceGT, Int.reduceGE, ↓reduceIte, decide_true, decide_false, eq_self, Nat.mul_one, Nat.zero_mul, Nat.one_mul, Int.le_refl, Nat.le_refl, Int.cast_ofNat_Int, Tryd.f11, rI, hsl, hE, hF, Tn.tv, Tn.cs]
  | true =>
  simp only [Bool.and_eq_true, inB_iff] at hk0
  obtain ⟨⟨hok, hp⟩, hq⟩ := hk0
  have hok' := stockOk1_iff.1 hok
  have hE := trainE_ok hok hp hq
  have hF := trainE_ok hok hq hp
  obtain ⟨f, rfl⟩ := hs.ne (by omega)
  rw [ic_ints] at rI ⊢
  simp only [unI_eq, if_true] at rI
  have hlen : inB (st.length : Int) 1 10 = true := inB_iff.2 (by omega)
  have cL : 0 < (st.length : Int) ∧ (st.length : Int) ≤ 9223372036854775807 := by omega
  obtain ⟨A, hA⟩ : ∃ A, m0 % (st.length : Int) = A := ⟨_, rfl⟩
  obtain ⟨B, hB⟩ : ∃ B, m1 % (st.length : Int) = B := ⟨_, rfl⟩
  obtain ⟨C, hC⟩ : ∃ C, m2 % (st.length : Int) = C := ⟨_, rfl⟩
  obtain ⟨D, hD⟩ : ∃ D, m3 % (st.length : Int) = D := ⟨_, rfl⟩
  have hC0 : C ≥ 0 := by rw [← hC]; exact Int.emod_nonneg _ (by omega)
  obtain ⟨T, hT⟩ : ∃ T, 1 + m4 % 5 = T := ⟨_, rfl⟩
  have hT1 : 1 ≤ T ∧ T ≤ 5 := by omega
  have wT : IntKind.i64.wrap (1 + m4 % 5) = T := by rw [hT]; exact wrap_in (by omega) (by omega)
  have mp := mulB (a := p) (b := T) (A := 100000) (B := 5) (by omega) (by omega) (by omega) (by omega)
  have mq := mulB (a := q) (b := T) (A := 100000) (B := 5) (by omega) (by omega) (by omega) (by omega)
  have wpT : IntKind.i64.wrap (p * T) = p * T := wrap_in (by omega) (by omega)
  have wqT : IntKind.i64.wrap (q * T) = q * T := wrap_in (by omega) (by omega)
  have pp := Int.mul_pos (show 0 < p by omega) (show 0 < T by omega)
  have pq := Int.mul_pos (show 0 < q by omega) (show 0 < T by omega)
  have wr : ∀ {x y : Int}, 0 ≤ x → x ≤ 40000 → 0 ≤ y → y ≤ 100000 → IntKind.i64.wrap (x * y) = x * y := fun {x y} h1 h2 h3 h4 => by
    have m := mulB (A := 40000) (B := 100000) h1 h3 h2 h4
    exact wrap_in (by omega) (by omega)
  have own : ∀ O : Tn, (∃ P Q, ratioP st O = (P, Q, false)) ∨ ∃ P Q v r s, ratioP st O = (P, Q, true) ∧ (¬ P > 100000 ∧ ¬ Q > 100000) ∧ trainE st P Q = (v, 0) ∧ ratioP st v = (r, s, true) ∧ (IntKind.i64.wrap (r * Q) = s * P ∧ IntKind.i64.wrap (s * P) = s * P) ∧ (O.c = -1 → O.d = -1 → v.c < 0) := fun O => by
    obtain ⟨⟨P, Q, ok⟩, hr⟩ : ∃ x, ratioP st O = x := ⟨_, rfl⟩
    cases ok with
    | false => exact .inl ⟨P, Q, hr⟩
    | true =>
      obtain ⟨b1, b2⟩ := ratio_bound hok hr
      obtain ⟨b3, b4⟩ := ratio_pos hok hr
      obtain ⟨v, r, s, h1, h2, h3, h4⟩ := train_own hr
      obtain ⟨b5, b6⟩ := ratio_bound hok h2
      refine .inr ⟨P, Q, v, r, s, hr, ⟨by omega, by omega⟩, ?_, h2, ⟨?_, wr b6.1 b6.2 b1.1 (by omega)⟩, h4⟩
      · rw [trainE_ok hok ⟨b3, by omega⟩ ⟨b4, by omega⟩, h1]
      · rw [← h3]; exact wr b5.1 b5.2 b2.1 (by omega)
  cases htr : trainP st p q with
  | none =>
    have htu : trainP st q p = none := by
      cases h : trainP st q p with
      | none => rfl
      | some u => obtain ⟨v, h2, _⟩ := train_swap h; rw [htr] at h2; cases h2
    rw [htr] at hE
    rw [htu] at hF
    simp only at hE hF
    cases hCD : (C == D) with
    | true =>
      rcases own ⟨A, B, -1, -1⟩ with ⟨P, Q, g1⟩ | ⟨P, Q, ⟨v1, v2, v3, v4⟩, r, s, g1, g2, g3, g4, g5, g6⟩
      · simp (decide := true) (maxSteps := 4000000) only [go_sem, Nat.reduceAdd, Nat.reduceSub, Nat.reduceMul, Nat.reduceDiv, Nat.reduceMod, Nat.reduceLT, Nat.reduceLeDiff, Nat.reduceEqDiff, Nat.reduceBEq, Nat.reduceBNe, Nat.reduceGT, Int.reduceAdd, Int.reduceSub, Int.reduceMul, Int.reduceNeg, Int.reduceLT, Int.reduceLE, Int.reduceEq, Int.reduceNe, Int.reduceBEq, Int.reduceBNe, Int.reduceToNat, Int.reduceGT, Int.reduceGE, ↓reduceIte, decide_true, decide_false, eq_self, Nat.mul_one, Nat.zero_mul, Nat.one_mul, Int.le_refl, Nat.le_refl, Int.cast_ofNat_Int, Tryd.f11, rI, unI_eq, hsl, hE, hF, hlen, Tn.tv, Tn.cs, cL, hA, hB, hC, hD, hok, beq_self_eq_true, bne_self_eq_false, hCD, g1]
      · have g7 : v3 < 0 := g6 rfl rfl
        simp (decide := true) (maxSteps := 4000000) only [go_sem, Nat.reduceAdd, Nat.reduceSub, Nat.reduceMul, Nat.reduceDiv, Nat.reduceMod, Nat.reduceLT, Nat.reduceLeDiff, Nat.reduceEqDiff, Nat.reduceBEq, Nat.reduceBNe, Nat.reduceGT, Int.reduceAdd, Int.reduceSub, Int.reduceMul, Int.reduceNeg, Int.reduceLT, Int.reduceLE, Int.reduceEq, Int.reduceNe, Int.reduceBEq, Int.reduceBNe, Int.reduceToNat, Int.reduceGT, Int.reduceGE, ↓reduceIte, decide_true, decide_false, eq_self, Nat.mul_one, Nat.zero_mul, Nat.one_mul, Int.le_refl, Nat.le_refl, Int.cast_ofNat_Int, Tryd.f11, rI, unI_eq, hsl, hE, hF, hlen, Tn.tv, Tn.cs, cL, hA, hB, hC, hD, hok, beq_self_eq_true, bne_self_eq_false, hCD, g1, g2, g3, g4, g5, g7]
    | false =>
      rcases own ⟨A, B, C, D⟩ with ⟨P, Q, g1⟩ | ⟨P, Q, ⟨v1, v2, v3, v4⟩, r, s, g1, g2, g3, g4, g5, g6⟩
      · simp (decide := true) (maxSteps := 4000000) only [go_sem, Nat.reduceAdd, Nat.reduceSub, Nat.reduceMul, Nat.reduceDiv, Nat.reduceMod, Nat.reduceLT, Nat.reduceLeDiff, Nat.reduceEqDiff, Nat.reduceBEq, Nat.reduceBNe, Nat.reduceGT, Int.reduceAdd, Int.reduceSub, Int.reduceMul, Int.reduceNeg, Int.reduceLT, Int.reduceLE, Int.reduceEq, Int.reduceNe, Int.reduceBEq, Int.reduceBNe, Int.reduceToNat, Int.reduceGT, Int.reduceGE, ↓reduceIte, decide_true, decide_false, eq_self, Nat.mul_one, Nat.zero_mul, Nat.one_mul, Int.le_refl, Nat.le_refl, Int.cast_ofNat_Int, Tryd.f11, rI, unI_eq, hsl, hE, hF, hlen, Tn.tv, Tn.cs, cL, hA, hB, hC, hD, hok, beq_self_eq_true, bne_self_eq_false, hCD, g1]
      · skip
        simp (decide := true) (maxSteps := 4000000) only [go_sem, Nat.reduceAdd, Nat.reduceSub, Nat.reduceMul, Nat.reduceDiv, Nat.reduceMod, Nat.reduceLT, Nat.reduceLeDiff, Nat.reduceEqDiff, Nat.reduceBEq, Nat.reduceBNe, Nat.reduceGT, Int.reduceAdd, Int.reduceSub, Int.reduceMul, Int.reduceNeg, Int.reduceLT, Int.reduceLE, Int.reduceEq, Int.reduceNe, Int.reduceBEq, Int.reduceBNe, Int.reduceToNat, Int.reduceGT, Int.reduceGE, ↓reduceIte, decide_true, decide_false, eq_self, Nat.mul_one, Nat.zero_mul, Nat.one_mul, Int.le_refl, Nat.le_refl, Int.cast_ofNat_Int, Tryd.f11, rI, unI_eq, hsl, hE, hF, hlen, Tn.tv, Tn.cs, cL, hA, hB, hC, hD, hok, beq_self_eq_true, bne_self_eq_false, hCD, g1, g2, g3, g4, g5, hC0]
  | some tr =>
    obtain ⟨u, htu, hcc⟩ := train_swap htr
    obtain ⟨P1, Q1, r1, r2⟩ := train_ratio htr
    obtain ⟨P2, Q2, s1, s2⟩ := train_ratio htu
    obtain ⟨b1, b2⟩ := ratio_bound hok r1
    obtain ⟨b3, b4⟩ := ratio_bound hok s1
    have x1 : IntKind.i64.wrap (P1 * q) = Q1 * p := by rw [← r2]; exact wr b1.1 b1.2 (by omega) (by omega)
    have x2 : IntKind.i64.wrap (Q1 * p) = Q1 * p := wr b2.1 b2.2 (by omega) (by omega)
    have x3 : IntKind.i64.wrap (P2 * p) = Q2 * q := by rw [← s2]; exact wr b3.1 b3.2 (by omega) (by omega)
    have x4 : IntKind.i64.wrap (Q2 * q) = Q2 * q := wr b4.1 b4.2 (by omega) (by omega)
    rw [htr] at hE
    rw [htu] at hF
    simp only at hE hF
    have hti := train_times (st := st) (p := p) (q := q) (show 0 < T by omega)
    rw [htr] at hti
    obtain ⟨t1, t2, t3, t4⟩ := tr
    obtain ⟨u1, u2, u3, u4⟩ := u
    have hdc : decide (t3 < 0) = decide (u3 < 0) := decide_eq_decide.2 hcc
    by_cases hp5 : p * T ≤ 100000
    · by_cases hq5 : q * T ≤ 100000
      · have hG : trainE st (p * T) (q * T) = (⟨t1, t2, t3, t4⟩, 0) := by rw [trainE_ok hok ⟨by omega, hp5⟩ ⟨by omega, hq5⟩, hti]
        cases hCD : (C == D) with
        | true =>
          rcases own ⟨A, B, -1, -1⟩ with ⟨P, Q, g1⟩ | ⟨P, Q, ⟨v1, v2, v3, v4⟩, r, s, g1, g2, g3, g4, g5, g6⟩
          · simp (decide := true) (maxSteps := 4000000) only [go_sem, Nat.reduceAdd, Nat.reduceSub, Nat.reduceMul, Nat.reduceDiv, Nat.reduceMod, Nat.reduceLT, Nat.reduceLeDiff, Nat.reduceEqDiff, Nat.reduceBEq, Nat.reduceBNe, Nat.reduceGT, Int.reduceAdd, Int.reduceSub, Int.reduceMul, Int.reduceNeg, Int.reduceLT, Int.reduceLE, Int.reduceEq, Int.reduceNe, Int.reduceBEq, Int.reduceBNe, Int.reduceToNat, Int.reduceGT, Int.reduceGE, ↓reduceIte, decide_true, decide_false, eq_self, Nat.mul_one, Nat.zero_mul, Nat.one_mul, Int.le_refl, Nat.le_refl, Int.cast_ofNat_Int, Tryd.f11, rI, unI_eq, hsl, hE, hF, hlen, Tn.tv, Tn.cs, cL, hA, hB, hC, hD, hok, beq_self_eq_true, bne_self_eq_false, r1, s1, x1, x2, x3, x4, hdc, wT, wpT, wqT, hG, hp5, hq5, hCD, g1]
          · have g7 : v3 < 0 := g6 rfl rfl
            simp (decide := true) (maxSteps := 4000000) only [go_sem, Nat.reduceAdd, Nat.reduceSub, Nat.reduceMul, Nat.reduceDiv, Nat.reduceMod, Nat.reduceLT, Nat.reduceLeDiff, Nat.reduceEqDiff, Nat.reduceBEq, Nat.reduceBNe, Nat.reduceGT, Int.reduceAdd, Int.reduceSub, Int.reduceMul, Int.reduceNeg, Int.reduceLT, Int.reduceLE, Int.reduceEq, Int.reduceNe, Int.reduceBEq, Int.reduceBNe, Int.reduceToNat, Int.reduceGT, Int.reduceGE, ↓reduceIte, decide_true, decide_false, eq_self, Nat.mul_one, Nat.zero_mul, Nat.one_mul, Int.le_refl, Nat.le_refl, Int.cast_ofNat_Int, Tryd.f11, rI, unI_eq, hsl, hE, hF, hlen, Tn.tv, Tn.cs, cL, hA, hB, hC, hD, hok, beq_self_eq_true, bne_self_eq_false, r1, s1, x1, x2, x3, x4, hdc, wT, wpT, wqT, hG, hp5, hq5, hCD, g1, g2, g3, g4, g5, g7]
        | false =>
          rcases own ⟨A, B, C, D⟩ with ⟨P, Q, g1⟩ | ⟨P, Q, ⟨v1, v2, v3, v4⟩, r, s, g1, g2, g3, g4, g5, g6⟩
          · simp (decide := true) (maxSteps := 4000000) only [go_sem, Nat.reduceAdd, Nat.reduceSub, Nat.reduceMul, Nat.reduceDiv, Nat.reduceMod, Nat.reduceLT, Nat.reduceLeDiff, Nat.reduceEqDiff, Nat.reduceBEq, Nat.reduceBNe, Nat.reduceGT, Int.reduceAdd, Int.reduceSub, Int.reduceMul, Int.reduceNeg, Int.reduceLT, Int.reduceLE, Int.reduceEq, Int.reduceNe, Int.reduceBEq, Int.reduceBNe, Int.reduceToNat, Int.reduceGT, Int.reduceGE, ↓reduceIte, decide_true, decide_false, eq_self, Nat.mul_one, Nat.zero_mul, Nat.one_mul, Int.le_refl, Nat.le_refl, Int.cast_ofNat_Int, Tryd.f11, rI, unI_eq, hsl, hE, hF, hlen, Tn.tv, Tn.cs, cL, hA, hB, hC, hD, hok, beq_self_eq_true, bne_self_eq_false, r1, s1, x1, x2, x3, x4, hdc, wT, wpT, wqT, hG, hp5, hq5, hCD, g1]
          · skip
            simp (decide := true) (maxSteps := 4000000) only [go_sem, Nat.reduceAdd, Nat.reduceSub, Nat.reduceMul, Nat.reduceDiv, Nat.reduceMod, Nat.reduceLT, Nat.reduceLeDiff, Nat.reduceEqDiff, Nat.reduceBEq, Nat.reduceBNe, Nat.reduceGT, Int.reduceAdd, Int.reduceSub, Int.reduceMul, Int.reduceNeg, Int.reduceLT, Int.reduceLE, Int.reduceEq, Int.reduceNe, Int.reduceBEq, Int.reduceBNe, Int.reduceToNat, Int.reduceGT, Int.reduceGE, ↓reduceIte, decide_true, decide_false, eq_self, Nat.mul_one, Nat.zero_mul, Nat.one_mul, Int.le_refl, Nat.le_refl, Int.cast_ofNat_Int, Tryd.f11, rI, unI_eq, hsl, hE, hF, hlen, Tn.tv, Tn.cs, cL, hA, hB, hC, hD, hok, beq_self_eq_true, bne_self_eq_false, r1, s1, x1, x2, x3, x4, hdc, wT, wpT, wqT, hG, hp5, hq5, hCD, g1, g2, g3, g4, g5, hC0]
      · have hG : trainE st (p * T) (q * T) = (⟨0, 0, 0, 0⟩, 13) := trainE_no (fun h => hq5 h.2)
        cases hCD : (C == D) with
        | true =>
          rcases own ⟨A, B, -1, -1⟩ with ⟨P, Q, g1⟩ | ⟨P, Q, ⟨v1, v2, v3, v4⟩, r, s, g1, g2, g3, g4, g5, g6⟩
          · simp (decide := true) (maxSteps := 4000000) only [go_sem, Nat.reduceAdd, Nat.reduceSub, Nat.reduceMul, Nat.reduceDiv, Nat.reduceMod, Nat.reduceLT, Nat.reduceLeDiff, Nat.reduceEqDiff, Nat.reduceBEq, Nat.reduceBNe, Nat.reduceGT, Int.reduceAdd, Int.reduceSub, Int.reduceMul, Int.reduceNeg, Int.reduceLT, Int.reduceLE, Int.reduceEq, Int.reduceNe, Int.reduceBEq, Int.reduceBNe, Int.reduceToNat, Int.reduceGT, Int.reduceGE, ↓reduceIte, decide_true, decide_false, eq_self, Nat.mul_one, Nat.zero_mul, Nat.one_mul, Int.le_refl, Nat.le_refl, Int.cast_ofNat_Int, Tryd.f11, rI, unI_eq, hsl, hE, hF, hlen, Tn.tv, Tn.cs, cL, hA, hB, hC, hD, hok, beq_self_eq_true, bne_self_eq_false, r1, s1, x1, x2, x3, x4, hdc, wT, wpT, wqT, hG, hp5, hq5, hCD, g1]
          · have g7 : v3 < 0 := g6 rfl rfl
            simp (decide := true) (maxSteps := 4000000) only [go_sem, Nat.reduceAdd, Nat.reduceSub, Nat.reduceMul, Nat.reduceDiv, Nat.reduceMod, Nat.reduceLT, Nat.reduceLeDiff, Nat.reduceEqDiff, Nat.reduceBEq, Nat.reduceBNe, Nat.reduceGT, Int.reduceAdd, Int.reduceSub, Int.reduceMul, Int.reduceNeg, Int.reduceLT, Int.reduceLE, Int.reduceEq, Int.reduceNe, Int.reduceBEq, Int.reduceBNe, Int.reduceToNat, Int.reduceGT, Int.reduceGE, ↓reduceIte, decide_true, decide_false, eq_self, Nat.mul_one, Nat.zero_mul, Nat.one_mul, Int.le_refl, Nat.le_refl, Int.cast_ofNat_Int, Tryd.f11, rI, unI_eq, hsl, hE, hF, hlen, Tn.tv, Tn.cs, cL, hA, hB, hC, hD, hok, beq_self_eq_true, bne_self_eq_false, r1, s1, x1, x2, x3, x4, hdc, wT, wpT, wqT, hG, hp5, hq5, hCD, g1, g2, g3, g4, g5, g7]
        | false =>
          rcases own ⟨A, B, C, D⟩ with ⟨P, Q, g1⟩ | ⟨P, Q, ⟨v1, v2, v3, v4⟩, r, s, g1, g2, g3, g4, g5, g6⟩
          · simp (decide := true) (maxSteps := 4000000) only [go_sem, Nat.reduceAdd, Nat.reduceSub, Nat.reduceMul, Nat.reduceDiv, Nat.reduceMod, Nat.reduceLT, Nat.reduceLeDiff, Nat.reduceEqDiff, Nat.reduceBEq, Nat.reduceBNe, Nat.reduceGT, Int.reduceAdd, Int.reduceSub, Int.reduceMul, Int.reduceNeg, Int.reduceLT, Int.reduceLE, Int.reduceEq, Int.reduceNe, Int.reduceBEq, Int.reduceBNe, Int.reduceToNat, Int.reduceGT, Int.reduceGE, ↓reduceIte, decide_true, decide_false, eq_self, Nat.mul_one, Nat.zero_mul, Nat.one_mul, Int.le_refl, Nat.le_refl, Int.cast_ofNat_Int, Tryd.f11, rI, unI_eq, hsl, hE, hF, hlen, Tn.tv, Tn.cs, cL, hA, hB, hC, hD, hok, beq_self_eq_true, bne_self_eq_false, r1, s1, x1, x2, x3, x4, hdc, wT, wpT, wqT, hG, hp5, hq5, hCD, g1]
          · skip
            simp (decide := true) (maxSteps := 4000000) only [go_sem, Nat.reduceAdd, Nat.reduceSub, Nat.reduceMul, Nat.reduceDiv, Nat.reduceMod, Nat.reduceLT, Nat.reduceLeDiff, Nat.reduceEqDiff, Nat.reduceBEq, Nat.reduceBNe, Nat.reduceGT, Int.reduceAdd, Int.reduceSub, Int.reduceMul, Int.reduceNeg, Int.reduceLT, Int.reduceLE, Int.reduceEq, Int.reduceNe, Int.reduceBEq, Int.reduceBNe, Int.reduceToNat, Int.reduceGT, Int.reduceGE, ↓reduceIte, decide_true, decide_false, eq_self, Nat.mul_one, Nat.zero_mul, Nat.one_mul, Int.le_refl, Nat.le_refl, Int.cast_ofNat_Int, Tryd.f11, rI, unI_eq, hsl, hE, hF, hlen, Tn.tv, Tn.cs, cL, hA, hB, hC, hD, hok, beq_self_eq_true, bne_self_eq_false, r1, s1, x1, x2, x3, x4, hdc, wT, wpT, wqT, hG, hp5, hq5, hCD, g1, g2, g3, g4, g5, hC0]
    · have hG : trainE st (p * T) (q * T) = (⟨0, 0, 0, 0⟩, 13) := trainE_no (fun h => hp5 h.1)
      cases hCD : (C == D) with
      | true =>
        rcases own ⟨A, B, -1, -1⟩ with ⟨P, Q, g1⟩ | ⟨P, Q, ⟨v1, v2, v3, v4⟩, r, s, g1, g2, g3, g4, g5, g6⟩
        · simp (decide := true) (maxSteps := 4000000) only [go_sem, Nat.reduceAdd, Nat.reduceSub, Nat.reduceMul, Nat.reduceDiv, Nat.reduceMod, Nat.reduceLT, Nat.reduceLeDiff, Nat.reduceEqDiff, Nat.reduceBEq, Nat.reduceBNe, Nat.reduceGT, Int.reduceAdd, Int.reduceSub, Int.reduceMul, Int.reduceNeg, Int.reduceLT, Int.reduceLE, Int.reduceEq, Int.reduceNe, Int.reduceBEq, Int.reduceBNe, Int.reduceToNat, Int.reduceGT, Int.reduceGE, ↓reduceIte, decide_true, decide_false, eq_self, Nat.mul_one, Nat.zero_mul, Nat.one_mul, Int.le_refl, Nat.le_refl, Int.cast_ofNat_Int, Tryd.f11, rI, unI_eq, hsl, hE, hF, hlen, Tn.tv, Tn.cs, cL, hA, hB, hC, hD, hok, beq_self_eq_true, bne_self_eq_false, r1, s1, x1, x2, x3, x4, hdc, wT, wpT, wqT, hG, hp5, hCD, g1]
        · have g7 : v3 < 0 := g6 rfl rfl
          simp (decide := true) (maxSteps := 4000000) only [go_sem, Nat.reduceAdd, Nat.reduceSub, Nat.reduceMul, Nat.reduceDiv, Nat.reduceMod, Nat.reduceLT, Nat.reduceLeDiff, Nat.reduceEqDiff, Nat.reduceBEq, Nat.reduceBNe, Nat.reduceGT, Int.reduceAdd, Int.reduceSub, Int.reduceMul, Int.reduceNeg, Int.reduceLT, Int.reduceLE, Int.reduceEq, Int.reduceNe, Int.reduceBEq, Int.reduceBNe, Int.reduceToNat, Int.reduceGT, Int.reduceGE, ↓reduceIte, decide_true, decide_false, eq_self, Nat.mul_one, Nat.zero_mul, Nat.one_mul, Int.le_refl, Nat.le_refl, Int.cast_ofNat_Int, Tryd.f11, rI, unI_eq, hsl, hE, hF, hlen, Tn.tv, Tn.cs, cL, hA, hB, hC, hD, hok, beq_self_eq_true, bne_self_eq_false, r1, s1, x1, x2, x3, x4, hdc, wT, wpT, wqT, hG, hp5, hCD, g1, g2, g3, g4, g5, g7]
      | false =>
        rcases own ⟨A, B, C, D⟩ with ⟨P, Q, g1⟩ | ⟨P, Q, ⟨v1, v2, v3, v4⟩, r, s, g1, g2, g3, g4, g5, g6⟩
        · simp (decide := true) (maxSteps := 4000000) only [go_sem, Nat.reduceAdd, Nat.reduceSub, Nat.reduceMul, Nat.reduceDiv, Nat.reduceMod, Nat.reduceLT, Nat.reduceLeDiff, Nat.reduceEqDiff, Nat.reduceBEq, Nat.reduceBNe, Nat.reduceGT, Int.reduceAdd, Int.reduceSub, Int.reduceMul, Int.reduceNeg, Int.reduceLT, Int.reduceLE, Int.reduceEq, Int.reduceNe, Int.reduceBEq, Int.reduceBNe, Int.reduceToNat, Int.reduceGT, Int.reduceGE, ↓reduceIte, decide_true, decide_false, eq_self, Nat.mul_one, Nat.zero_mul, Nat.one_mul, Int.le_refl, Nat.le_refl, Int.cast_ofNat_Int, Tryd.f11, rI, unI_eq, hsl, hE, hF, hlen, Tn.tv, Tn.cs, cL, hA, hB, hC, hD, hok, beq_self_eq_true, bne_self_eq_false, r1, s1, x1, x2, x3, x4, hdc, wT, wpT, wqT, hG, hp5, hCD, g1]
        · skip
          simp (decide := true) (maxSteps := 4000000) only [go_sem, Nat.reduceAdd, Nat.reduceSub, Nat.reduceMul, Nat.reduceDiv, Nat.reduceMod, Nat.reduceLT, Nat.reduceLeDiff, Nat.reduceEqDiff, Nat.reduceBEq, Nat.reduceBNe, Nat.reduceGT, Int.reduceAdd, Int.reduceSub, Int.reduceMul, Int.reduceNeg, Int.reduceLT, Int.reduceLE, Int.reduceEq, Int.reduceNe, Int.reduceBEq, Int.reduceBNe, Int.reduceToNat, Int.reduceGT, Int.reduceGE, ↓reduceIte, decide_true, decide_false, eq_self, Nat.mul_one, Nat.zero_mul, Nat.one_mul, Int.le_refl, Nat.le_refl, Int.cast_ofNat_Int, Tryd.f11, rI, unI_eq, hsl, hE, hF, hlen, Tn.tv, Tn.cs, cL, hA, hB, hC, hD, hok, beq_self_eq_true, bne_self_eq_false, r1, s1, x1, x2, x3, x4, hdc, wT, wpT, wqT, hG, hp5, hCD, g1, g2, g3, g4, g5, hC0]
end Go.Proofs.YtnoahnbjdapieaaDoor
