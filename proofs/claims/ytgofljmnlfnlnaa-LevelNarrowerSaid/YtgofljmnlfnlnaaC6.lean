/- What the claim leans on, text 6. -/
import Derived.Test.YtgofljmnlfnlnaaC5
set_option linter.unusedSimpArgs false
set_option linter.unusedVariables false

/- Part Mk. -/
namespace Go.Oc
open Go Go.Pm Go.Proofs.Ytgofljmnlfnlnaa
theorem within_snoc (v : Vial) (l : List Mk) (m : Mk) (z : Int) : (withinS v.wr l z).lo ≤ (withinS v.wr (l ++ [m]) z).lo ∧ (withinS v.wr (l ++ [m]) z).hi ≤ (withinS v.wr l z).hi := by
  have e : withinS v.wr (l ++ [m]) z = inS v.wr z (withinS v.wr l z) m := by unfold withinS; rw [List.foldl_append]; rfl
  rw [e]; simp only [inS]; omega
theorem feas_sub {v : Vial} {l : List Mk} {m : Mk} {z : Int} (h : feas v (l ++ [m]) z) : feas v l z := by
  have := within_snoc v l m z
  have h2 := h.2
  exact ⟨h.1, by omega⟩
theorem leastP_mono {v : Vial} (hv : v.ok = true) {a b : Int} (h : a ≤ b) : leastP v a ≤ leastP v b := by
  have hv' := Vial.ok_iff.1 hv
  have h1 := Int.mul_le_mul_of_nonneg_right (c := v.v0) h (by omega)
  have h2 := Int.mul_le_mul_of_nonneg_right (c := v.v1) h (by omega)
  unfold leastP; omega
theorem mostP_mono {v : Vial} (hv : v.ok = true) {a b : Int} (h : a ≤ b) : mostP v a ≤ mostP v b := by
  have hv' := Vial.ok_iff.1 hv
  have h1 := Int.mul_le_mul_of_nonneg_right (c := v.v0) h (by omega)
  have h2 := Int.mul_le_mul_of_nonneg_right (c := v.v1) h (by omega)
  unfold mostP; omega
theorem tilts_sub {v : Vial} (hv : v.ok = true) {l : List Mk} {m : Mk} (h : (tilts v (l ++ [m])).is = true) :
    (tilts v l).is = true ∧ (tilts v l).tilt.lo ≤ (tilts v (l ++ [m])).tilt.lo ∧ (tilts v (l ++ [m])).tilt.hi ≤ (tilts v l).tilt.hi ∧ (tilts v l).zero.lo ≤ (tilts v (l ++ [m])).zero.lo ∧ (tilts v (l ++ [m])).zero.hi ≤ (tilts v l).zero.hi := by
  obtain ⟨⟨z1, f1, e1⟩, ⟨z2, f2, e2⟩, f3, f4⟩ := tilts_at h
  refine ⟨tilts_is.2 ⟨z1, feas_sub f1⟩, ?_, ?_, (tilts_zero (feas_sub f3)).1, (tilts_zero (feas_sub f4)).2⟩
  · have a := tilts_lo (feas_sub f1)
    have b := leastP_mono hv (within_snoc v l m z1).1
    omega
  · have a := tilts_hi (feas_sub f2)
    have b := mostP_mono hv (within_snoc v l m z2).2
    omega
theorem gain_le {v : Vial} (hv : v.ok = true) {l : List Mk} {tu : Bool} : ∀ {k : Nat} {n : Int}, gainTo v l tu k = some n → n ≤ (tilts v l).tilt.hi - (tilts v l).tilt.lo
  | 0, n, h => by cases h
  | k + 1, n, h => by
    rw [gainTo_succ] at h
    cases hi : (tilts v (l ++ [⟨(k : Int), tu⟩])).is with
    | false => rw [gI_skip hi] at h; exact gain_le hv h
    | true =>
      obtain ⟨_, a, b, _⟩ := tilts_sub hv hi
      unfold gainStep wideT at h
      rw [if_pos hi] at h
      cases hg : gainTo v l tu k with
      | none => rw [hg] at h; simp only [Option.some.injEq] at h; omega
      | some n' => have := gain_le hv hg; rw [hg] at h; simp only [Option.some.injEq] at h; omega
theorem gain_ge {v : Vial} {l : List Mk} {tu : Bool} : ∀ {k j : Nat}, j < k → (tilts v (l ++ [⟨(j : Int), tu⟩])).is = true → ∃ n, gainTo v l tu k = some n ∧ (tilts v (l ++ [⟨(j : Int), tu⟩])).tilt.hi - (tilts v (l ++ [⟨(j : Int), tu⟩])).tilt.lo ≤ n
  | k + 1, j, h, hj => by
    rw [gainTo_succ]
    unfold gainStep wideT
    by_cases hjk : j = k
    · subst hjk
      rw [if_pos hj]
      refine ⟨_, rfl, ?_⟩
      split <;> omega
    · obtain ⟨n, h1, h2⟩ := gain_ge (k := k) (by omega) hj
      split
      · rw [h1]
        exact ⟨_, rfl, by simp only; omega⟩
      · exact ⟨n, h1, h2⟩
theorem asked_30 {v : Vial} {l : List Rd} (h : asked v l = 30) : v.ok = false := by
  unfold asked at h
  cases hv : v.ok with
  | false => rfl
  | true => rw [hv] at h; cases hr : rdsOk v l <;> simp [hr] at h
theorem tilt_30 {v : Vial} {l r : List Rd} (h : (tiltR v l).e = 30) : (tiltR v r).e = 30 := by
  have hv : v.ok = false := by
    unfold tiltR at h
    split at h
    · split at h <;> simp at h
    · exact asked_30 h
  unfold tiltR asked
  simp [hv]
theorem tilt_yes {v : Vial} {l : List Rd} (h : (tiltR v l).e = 0) : v.ok = true ∧ rdsOk v l = true ∧ (tilts v (l.map mid)).is = true ∧ (tiltR v l).tilt = (tilts v (l.map mid)).tilt ∧ (tiltR v l).zero = (tilts v (l.map mid)).zero := by
  unfold tiltR at h ⊢
  by_cases hk : asked v l = 0
  · rw [if_pos hk] at h ⊢
    obtain ⟨hv, hr⟩ := asked_zero hk
    cases hi : (tilts v (l.map mid)).is with
    | false => rw [hi] at h; simp at h
    | true => exact ⟨hv, hr, rfl, rfl, rfl⟩
  · rw [if_neg hk] at h; exact absurd h hk
/-- With a reading more, plainly. -/
theorem narrower {v : Vial} {l : List Rd} {x : Rd} (ha : (tiltR v l).e = 0) (hb : (tiltR v (l ++ [x])).e = 0) :
    ((tiltR v l).tilt.lo ≤ (tiltR v (l ++ [x])).tilt.lo ∧ (tiltR v (l ++ [x])).tilt.hi ≤ (tiltR v l).tilt.hi ∧ (tiltR v l).zero.lo ≤ (tiltR v (l ++ [x])).zero.lo ∧ (tiltR v (l ++ [x])).zero.hi ≤ (tiltR v l).zero.hi) ∧
    ((-5000000 ≤ (tiltR v l).tilt.lo ∧ (tiltR v l).tilt.hi ≤ 5000000) ∧ (tiltR v (l ++ [x])).tilt.lo ≤ (tiltR v (l ++ [x])).tilt.hi) ∧
    (nextP v l).2.2 = 0 ∧ (nextP v l).2.1 ≤ (tiltR v l).tilt.hi - (tiltR v l).tilt.lo ∧ (x.turned = (nextP v l).1 → (tiltR v (l ++ [x])).tilt.hi - (tiltR v (l ++ [x])).tilt.lo ≤ (nextP v l).2.1) := by
  obtain ⟨hv, hr, hi, e1, e2⟩ := tilt_yes ha
  obtain ⟨_, hr', hi', e3, e4⟩ := tilt_yes hb
  rw [e1, e2, e3, e4]
  rw [List.map_append, List.map_cons, List.map_nil] at hi' ⊢
  obtain ⟨_, a, b, c, d⟩ := tilts_sub hv hi'
  have bd := tilts_bound hv (mksOk_mid hv hr)
  have hle := tilts_le hv hi'
  have h8 := rdsOk_len hr'
  rw [List.length_append] at h8
  simp only [List.length_cons, List.length_nil] at h8
  have hk : asked v l = 0 := by unfold asked; simp [hv, hr]
  have hxr := hr'
  simp only [rdsOk, Bool.and_eq_true, List.all_eq_true] at hxr
  have hbx := hxr.2 x (by simp)
  simp only [rdOk, inB, Bool.and_eq_true, decide_eq_true_eq] at hbx
  have em : mid x = ⟨((x.left + x.right).toNat : Int), x.turned⟩ := by
    have : (((x.left + x.right).toNat : Nat) : Int) = x.left + x.right := Int.toNat_of_nonneg (by omega)
    rw [this]; rfl
  have hi2 := hi'
  rw [em] at hi2
  obtain ⟨n, g1, g2⟩ := gain_ge (k := (2 * v.marks + 1).toNat) (by omega) hi2
  rw [← em] at g2
  refine ⟨⟨a, b, c, d⟩, ⟨⟨bd.1, bd.2.2.2⟩, hle⟩, ?_⟩
  have hgo : gainOf v (l.map mid) x.turned = some n := g1
  unfold nextP
  rw [if_pos hk, if_neg (by omega), if_pos hi]
  cases hd : gainOf v (l.map mid) false with
  | none =>
    cases ht : gainOf v (l.map mid) true with
    | none => exact (gain_one hv hr hi hd ht).elim
    | some t =>
      refine ⟨rfl, gain_le hv (show gainTo v _ true _ = some t from ht), fun hx => ?_⟩
      simp only at hx ⊢
      rw [hx, ht] at hgo; cases hgo; exact g2
  | some d =>
    have ld := gain_le hv (show gainTo v (l.map mid) false _ = some d from hd)
    cases ht : gainOf v (l.map mid) true with
    | none =>
      refine ⟨rfl, ld, fun hx => ?_⟩
      simp only at hx ⊢
      rw [hx, hd] at hgo; cases hgo; exact g2
    | some t =>
      have lt := gain_le hv (show gainTo v (l.map mid) true _ = some t from ht)
      simp only
      split
      · refine ⟨rfl, lt, fun hx => ?_⟩
        simp only at hx ⊢
        rw [hx, ht] at hgo; cases hgo; exact g2
      · refine ⟨rfl, ld, fun hx => ?_⟩
        simp only at hx ⊢
        rw [hx, hd] at hgo; cases hgo; exact g2
theorem unRds_snoc (l : List Rd) (x : Rd) : unRds (l.flatMap Rd.cs ++ [.int .i64 x.left, .int .i64 x.right, .bool x.turned]) = some (l ++ [x]) := by
  have := unRds_eq (l ++ [x])
  rw [List.flatMap_append] at this
  exact this
end Go.Oc
namespace Go.Proofs.Ytgofljmnlfnlnaa
open Go.RowKit Go.Pm Go.Oc
set_option maxRecDepth 100000
set_option linter.unusedVariables false
set_option maxHeartbeats 4000000

theorem unRds_one (x : Rd) : unRds [.int .i64 x.left, .int .i64 x.right, .bool x.turned] = some [x] := rfl
theorem LevelNarrower_c (v : Vial) {l : List Rd} {s : TV} (hs : IsRow Rd.cs s l) (hl : l.length ≤ 5864062014804) (x : Rd) : PCalls Try.prog 12 [v.t, s, .agg x.cs] (.bool true) := by
  have key := narrower (v := v) (l := l) (x := x)
  have k30 := tilt_30 (v := v) (l := l ++ [x]) (r := l)
  obtain ⟨A, hA⟩ : ∃ A, tiltR v l = A := ⟨_, rfl⟩
  obtain ⟨B, hB⟩ : ∃ B, tiltR v (l ++ [x]) = B := ⟨_, rfl⟩
  obtain ⟨N, hN⟩ : ∃ N, nextP v l = N := ⟨_, rfl⟩
  rw [hA, hB, hN] at key
  rw [hA, hB] at k30
  obtain ⟨⟨t0, t1⟩, ⟨z0, z1⟩, ae⟩ := A
  obtain ⟨⟨u0, u1⟩, ⟨y0, y1⟩, be⟩ := B
  obtain ⟨nt, ng, ne⟩ := N
  simp only at key k30
  have hl1 : l.length ≤ 5864062014806 := by omega
  have hl2 : l.length + 1 ≤ 5864062014806 := by omega
  have hfl : (List.flatMap Rd.cs l).length = l.length * 3 := flat_len Rd.cs (n := 3) (fun _ => rfl) l
  have htk : List.take (l.length * 3) (List.flatMap Rd.cs l) = List.flatMap Rd.cs l := List.take_of_length_le (by omega)
  have hroom : (l.length + 1) * 24 ≤ 140737488355328 := by omega
  have hroom2 : l.length * 24 ≤ 140737488355328 := by omega
  have hxl : (l ++ [x]).length = l.length + 1 := by simp
  have hus := unRds_snoc l x
  have huo := unRds_one x
  have hun : unRds [] = some [] := rfl
  refine pcalls_by Try.mixes spN2_ok (fn := Try.f12) Try.func12 rfl (by kernel_rfl) (by show 3 ≤ _; decide) ?_
  by_cases h0 : ae = 0 ∧ be = 0
  · obtain ⟨rfl, rfl⟩ := h0
    obtain ⟨⟨a, b, c, d⟩, ⟨⟨b1, b2⟩, b3⟩, rfl, g1, g2⟩ := key rfl rfl
    have a' : ¬ u0 < t0 := by omega
    have b' : ¬ u1 > t1 := by omega
    have c' : ¬ y0 < z0 := by omega
    have d' : ¬ y1 > z1 := by omega
    have w1 : IntKind.i64.wrap (t1 - t0) = t1 - t0 := wrap_in (by omega) (by omega)
    have w2 : IntKind.i64.wrap (u1 - u0) = u1 - u0 := wrap_in (by omega) (by omega)
    by_cases hx : x.turned = nt
    · have g3 := g2 hx
      have hx' : (x.turned == nt) = true := by simp [hx]
      rcases hs with ⟨rfl, rfl⟩ | ⟨full, rfl⟩
      · rw [List.nil_append] at hB hxl hus
        simp (decide := true) (maxSteps := 4000000) only [go_sem, Nat.reduceAdd, Nat.reduceSub, Nat.reduceMul, Nat.reduceDiv, Nat.reduceMod, Nat.reduceLT, Nat.reduceLeDiff, Nat.reduceEqDiff, Nat.reduceBEq, Nat.reduceBNe, Nat.reduceGT, Int.reduceAdd, Int.reduceSub, Int.reduceMul, Int.reduceNeg, Int.reduceLT, Int.reduceLE, Int.reduceEq, Int.reduceNe, Int.reduceBEq, Int.reduceBNe, Int.reduceToNat, Int.reduceGT, Int.reduceGE, ↓reduceIte, decide_true, decide_false, eq_self, Nat.mul_one, Nat.zero_mul, Nat.one_mul, Int.le_refl, Nat.le_refl, Int.cast_ofNat_Int, Try.f12, Vial.t, Vial.cs, Rd.cs, hA, hB, hN, hl1, hl2, hfl, htk, hroom, hroom2, hxl, hus, huo, hun, allO_t, TE.t, Span.t, Span.cs, a', b', c', d', w1, w2, g1, g3, hx', List.length_nil]
      · by_cases hn : l.length = 0
        · have hnl : l = [] := List.length_eq_zero_iff.1 hn
          subst hnl
          rw [List.nil_append] at hB hxl hus
          simp (decide := true) (maxSteps := 4000000) only [go_sem, Nat.reduceAdd, Nat.reduceSub, Nat.reduceMul, Nat.reduceDiv, Nat.reduceMod, Nat.reduceLT, Nat.reduceLeDiff, Nat.reduceEqDiff, Nat.reduceBEq, Nat.reduceBNe, Nat.reduceGT, Int.reduceAdd, Int.reduceSub, Int.reduceMul, Int.reduceNeg, Int.reduceLT, Int.reduceLE, Int.reduceEq, Int.reduceNe, Int.reduceBEq, Int.reduceBNe, Int.reduceToNat, Int.reduceGT, Int.reduceGE, ↓reduceIte, decide_true, decide_false, eq_self, Nat.mul_one, Nat.zero_mul, Nat.one_mul, Int.le_refl, Nat.le_refl, Int.cast_ofNat_Int, Try.f12, Vial.t, Vial.cs, Rd.cs, hA, hB, hN, hl1, hl2, hfl, htk, hroom, hroom2, hxl, hus, huo, hun, allO_t, TE.t, Span.t, Span.cs, a', b', c', d', w1, w2, g1, g3, hx', List.length_nil]
        · simp (decide := true) (maxSteps := 4000000) only [go_sem, Nat.reduceAdd, Nat.reduceSub, Nat.reduceMul, Nat.reduceDiv, Nat.reduceMod, Nat.reduceLT, Nat.reduceLeDiff, Nat.reduceEqDiff, Nat.reduceBEq, Nat.reduceBNe, Nat.reduceGT, Int.reduceAdd, Int.reduceSub, Int.reduceMul, Int.reduceNeg, Int.reduceLT, Int.reduceLE, Int.reduceEq, Int.reduceNe, Int.reduceBEq, Int.reduceBNe, Int.reduceToNat, Int.reduceGT, Int.reduceGE, ↓reduceIte, decide_true, decide_false, eq_self, Nat.mul_one, Nat.zero_mul, Nat.one_mul, Int.le_refl, Nat.le_refl, Int.cast_ofNat_Int, Try.f12, Vial.t, Vial.cs, Rd.cs, hA, hB, hN, hl1, hl2, hfl, htk, hroom, hroom2, hxl, hus, huo, hun, allO_t, TE.t, Span.t, Span.cs, a', b', c', d', w1, w2, g1, g3, hx', hn]
    · have hx' : (x.turned == nt) = false := by simpa using hx
      rcases hs with ⟨rfl, rfl⟩ | ⟨full, rfl⟩
      · rw [List.nil_append] at hB hxl hus
        simp (decide := true) (maxSteps := 4000000) only [go_sem, Nat.reduceAdd, Nat.reduceSub, Nat.reduceMul, Nat.reduceDiv, Nat.reduceMod, Nat.reduceLT, Nat.reduceLeDiff, Nat.reduceEqDiff, Nat.reduceBEq, Nat.reduceBNe, Nat.reduceGT, Int.reduceAdd, Int.reduceSub, Int.reduceMul, Int.reduceNeg, Int.reduceLT, Int.reduceLE, Int.reduceEq, Int.reduceNe, Int.reduceBEq, Int.reduceBNe, Int.reduceToNat, Int.reduceGT, Int.reduceGE, ↓reduceIte, decide_true, decide_false, eq_self, Nat.mul_one, Nat.zero_mul, Nat.one_mul, Int.le_refl, Nat.le_refl, Int.cast_ofNat_Int, Try.f12, Vial.t, Vial.cs, Rd.cs, hA, hB, hN, hl1, hl2, hfl, htk, hroom, hroom2, hxl, hus, huo, hun, allO_t, TE.t, Span.t, Span.cs, a', b', c', d', w1, w2, g1, hx', List.length_nil]
      · by_cases hn : l.length = 0
        · have hnl : l = [] := List.length_eq_zero_iff.1 hn
          subst hnl
          rw [List.nil_append] at hB hxl hus
          simp (decide := true) (maxSteps := 4000000) only [go_sem, Nat.reduceAdd, Nat.reduceSub, Nat.reduceMul, Nat.reduceDiv, Nat.reduceMod, Nat.reduceLT, Nat.reduceLeDiff, Nat.reduceEqDiff, Nat.reduceBEq, Nat.reduceBNe, Nat.reduceGT, Int.reduceAdd, Int.reduceSub, Int.reduceMul, Int.reduceNeg, Int.reduceLT, Int.reduceLE, Int.reduceEq, Int.reduceNe, Int.reduceBEq, Int.reduceBNe, Int.reduceToNat, Int.reduceGT, Int.reduceGE, ↓reduceIte, decide_true, decide_false, eq_self, Nat.mul_one, Nat.zero_mul, Nat.one_mul, Int.le_refl, Nat.le_refl, Int.cast_ofNat_Int, Try.f12, Vial.t, Vial.cs, Rd.cs, hA, hB, hN, hl1, hl2, hfl, htk, hroom, hroom2, hxl, hus, huo, hun, allO_t, TE.t, Span.t, Span.cs, a', b', c', d', w1, w2, g1, hx', List.length_nil]
        · simp (decide := true) (maxSteps := 4000000) only [go_sem, Nat.reduceAdd, Nat.reduceSub, Nat.reduceMul, Nat.reduceDiv, Nat.reduceMod, Nat.reduceLT, Nat.reduceLeDiff, Nat.reduceEqDiff, Nat.reduceBEq, Nat.reduceBNe, Nat.reduceGT, Int.reduceAdd, Int.reduceSub, Int.reduceMul, Int.reduceNeg, Int.reduceLT, Int.reduceLE, Int.reduceEq, Int.reduceNe, Int.reduceBEq, Int.reduceBNe, Int.reduceToNat, Int.reduceGT, Int.reduceGE, ↓reduceIte, decide_true, decide_false, eq_self, Nat.mul_one, Nat.zero_mul, Nat.one_mul, Int.le_refl, Nat.le_refl, Int.cast_ofNat_Int, Try.f12, Vial.t, Vial.cs, Rd.cs, hA, hB, hN, hl1, hl2, hfl, htk, hroom, hroom2, hxl, hus, huo, hun, allO_t, TE.t, Span.t, Span.cs, a', b', c', d', w1, w2, g1, hx', hn]
  · by_cases h1 : be = 30
    · have h2 := k30 h1
      subst h1
      subst h2
      rcases hs with ⟨rfl, rfl⟩ | ⟨full, rfl⟩
      · rw [List.nil_append] at hB hxl hus
        simp (decide := true) (maxSteps := 4000000) only [go_sem, Nat.reduceAdd, Nat.reduceSub, Nat.reduceMul, Nat.reduceDiv, Nat.reduceMod, Nat.reduceLT, Nat.reduceLeDiff, Nat.reduceEqDiff, Nat.reduceBEq, Nat.reduceBNe, Nat.reduceGT, Int.reduceAdd, Int.reduceSub, Int.reduceMul, Int.reduceNeg, Int.reduceLT, Int.reduceLE, Int.reduceEq, Int.reduceNe, Int.reduceBEq, Int.reduceBNe, Int.reduceToNat, Int.reduceGT, Int.reduceGE, ↓reduceIte, decide_true, decide_false, eq_self, Nat.mul_one, Nat.zero_mul, Nat.one_mul, Int.le_refl, Nat.le_refl, Int.cast_ofNat_Int, Try.f12, Vial.t, Vial.cs, Rd.cs, hA, hB, hN, hl1, hl2, hfl, htk, hroom, hroom2, hxl, hus, huo, hun, allO_t, TE.t, Span.t, Span.cs, beq_self_eq_true, List.length_nil]
      · by_cases hn : l.length = 0
        · have hnl : l = [] := List.length_eq_zero_iff.1 hn
          subst hnl
          rw [List.nil_append] at hB hxl hus
          simp (decide := true) (maxSteps := 4000000) only [go_sem, Nat.reduceAdd, Nat.reduceSub, Nat.reduceMul, Nat.reduceDiv, Nat.reduceMod, Nat.reduceLT, Nat.reduceLeDiff, Nat.reduceEqDiff, Nat.reduceBEq, Nat.reduceBNe, Nat.reduceGT, Int.reduceAdd, Int.reduceSub, Int.reduceMul, Int.reduceNeg, Int.reduceLT, Int.reduceLE, Int.reduceEq, Int.reduceNe, Int.reduceBEq, Int.reduceBNe, Int.reduceToNat, Int.reduceGT, Int.reduceGE, ↓reduceIte, decide_true, decide_false, eq_self, Nat.mul_one, Nat.zero_mul, Nat.one_mul, Int.le_refl, Nat.le_refl, Int.cast_ofNat_Int, Try.f12, Vial.t, Vial.cs, Rd.cs, hA, hB, hN, hl1, hl2, hfl, htk, hroom, hroom2, hxl, hus, huo, hun, allO_t, TE.t, Span.t, Span.cs, beq_self_eq_true, List.length_nil]
        · simp (decide := true) (maxSteps := 4000000) only [go_sem, Nat.reduceAdd, Nat.reduceSub, Nat.reduceMul, Nat.reduceDiv, Nat.reduceMod, Nat.reduceLT, Nat.reduceLeDiff, Nat.reduceEqDiff, Nat.reduceBEq, Nat.reduceBNe, Nat.reduceGT, Int.reduceAdd, Int.reduceSub, Int.reduceMul, Int.reduceNeg, Int.reduceLT, Int.reduceLE, Int.reduceEq, Int.reduceNe, Int.reduceBEq, Int.reduceBNe, Int.reduceToNat, Int.reduceGT, Int.reduceGE, ↓reduceIte, decide_true, decide_false, eq_self, Nat.mul_one, Nat.zero_mul, Nat.one_mul, Int.le_refl, Nat.le_refl, Int.cast_ofNat_Int, Try.f12, Vial.t, Vial.cs, Rd.cs, hA, hB, hN, hl1, hl2, hfl, htk, hroom, hroom2, hxl, hus, huo, hun, allO_t, TE.t, Span.t, Span.cs, beq_self_eq_true, hn]
    · have h1' : (be != 30) = true := by simpa using h1
      by_cases h2 : ae = 0
      · have h3 : (be != 0) = true := by simp; exact fun h => h0 ⟨h2, h⟩
        subst h2
        rcases hs with ⟨rfl, rfl⟩ | ⟨full, rfl⟩
        · rw [List.nil_append] at hB hxl hus
          simp (decide := true) (maxSteps := 4000000) only [go_sem, Nat.reduceAdd, Nat.reduceSub, Nat.reduceMul, Nat.reduceDiv, Nat.reduceMod, Nat.reduceLT, Nat.reduceLeDiff, Nat.reduceEqDiff, Nat.reduceBEq, Nat.reduceBNe, Nat.reduceGT, Int.reduceAdd, Int.reduceSub, Int.reduceMul, Int.reduceNeg, Int.reduceLT, Int.reduceLE, Int.reduceEq, Int.reduceNe, Int.reduceBEq, Int.reduceBNe, Int.reduceToNat, Int.reduceGT, Int.reduceGE, ↓reduceIte, decide_true, decide_false, eq_self, Nat.mul_one, Nat.zero_mul, Nat.one_mul, Int.le_refl, Nat.le_refl, Int.cast_ofNat_Int, Try.f12, Vial.t, Vial.cs, Rd.cs, hA, hB, hN, hl1, hl2, hfl, htk, hroom, hroom2, hxl, hus, huo, hun, allO_t, TE.t, Span.t, Span.cs, h1', h3, List.length_nil]
        · by_cases hn : l.length = 0
          · have hnl : l = [] := List.length_eq_zero_iff.1 hn
            subst hnl
            rw [List.nil_append] at hB hxl hus
            simp (decide := true) (maxSteps := 4000000) only [go_sem, Nat.reduceAdd, Nat.reduceSub, Nat.reduceMul, Nat.reduceDiv, Nat.reduceMod, Nat.reduceLT, Nat.reduceLeDiff, Nat.reduceEqDiff, Nat.reduceBEq, Nat.reduceBNe, Nat.reduceGT, Int.reduceAdd, Int.reduceSub, Int.reduceMul, Int.reduceNeg, Int.reduceLT, Int.reduceLE, Int.reduceEq, Int.reduceNe, Int.reduceBEq, Int.reduceBNe, Int.reduceToNat, Int.reduceGT, Int.reduceGE, ↓reduceIte, decide_true, decide_false, eq_self, Nat.mul_one, Nat.zero_mul, Nat.one_mul, Int.le_refl, Nat.le_refl, Int.cast_ofNat_Int, Try.f12, Vial.t, Vial.cs, Rd.cs, hA, hB, hN, hl1, hl2, hfl, htk, hroom, hroom2, hxl, hus, huo, hun, allO_t, TE.t, Span.t, Span.cs, h1', h3, List.length_nil]
          · simp (decide := true) (maxSteps := 4000000) only [go_sem, Nat.reduceAdd, Nat.reduceSub, Nat.reduceMul, Nat.reduceDiv, Nat.reduceMod, Nat.reduceLT, Nat.reduceLeDiff, Nat.reduceEqDiff, Nat.reduceBEq, Nat.reduceBNe, Nat.reduceGT, Int.reduceAdd, Int.reduceSub, Int.reduceMul, Int.reduceNeg, Int.reduceLT, Int.reduceLE, Int.reduceEq, Int.reduceNe, Int.reduceBEq, Int.reduceBNe, Int.reduceToNat, Int.reduceGT, Int.reduceGE, ↓reduceIte, decide_true, decide_false, eq_self, Nat.mul_one, Nat.zero_mul, Nat.one_mul, Int.le_refl, Nat.le_refl, Int.cast_ofNat_Int, Try.f12, Vial.t, Vial.cs, Rd.cs, hA, hB, hN, hl1, hl2, hfl, htk, hroom, hroom2, hxl, hus, huo, hun, allO_t, TE.t, Span.t, Span.cs, h1', h3, hn]
      · have h3 : (ae != 0) = true := by simpa using h2
        rcases hs with ⟨rfl, rfl⟩ | ⟨full, rfl⟩
        · rw [List.nil_append] at hB hxl hus
          simp (decide := true) (maxSteps := 4000000) only [go_sem, Nat.reduceAdd, Nat.reduceSub, Nat.reduceMul, Nat.reduceDiv, Nat.reduceMod, Nat.reduceLT, Nat.reduceLeDiff, Nat.reduceEqDiff, Nat.reduceBEq, Nat.reduceBNe, Nat.reduceGT, Int.reduceAdd, Int.reduceSub, Int.reduceMul, Int.reduceNeg, Int.reduceLT, Int.reduceLE, Int.reduceEq, Int.reduceNe, Int.reduceBEq, Int.reduceBNe, Int.reduceToNat, Int.reduceGT, Int.reduceGE, ↓reduceIte, decide_true, decide_false, eq_self, Nat.mul_one, Nat.zero_mul, Nat.one_mul, Int.le_refl, Nat.le_refl, Int.cast_ofNat_Int, Try.f12, Vial.t, Vial.cs, Rd.cs, hA, hB, hN, hl1, hl2, hfl, htk, hroom, hroom2, hxl, hus, huo, hun, allO_t, TE.t, Span.t, Span.cs, h1', h3, List.length_nil]
        · by_cases hn : l.length = 0
          · have hnl : l = [] := List.length_eq_zero_iff.1 hn
            subst hnl
            rw [List.nil_append] at hB hxl hus
            simp (decide := true) (maxSteps := 4000000) only [go_sem, Nat.reduceAdd, Nat.reduceSub, Nat.reduceMul, Nat.reduceDiv, Nat.reduceMod, Nat.reduceLT, Nat.reduceLeDiff, Nat.reduceEqDiff, Nat.reduceBEq, Nat.reduceBNe, Nat.reduceGT, Int.reduceAdd, Int.reduceSub, Int.reduceMul, Int.reduceNeg, Int.reduceLT, Int.reduceLE, Int.reduceEq, Int.reduceNe, Int.reduceBEq, Int.reduceBNe, Int.reduceToNat, Int.reduceGT, Int.reduceGE, ↓reduceIte, decide_true, decide_false, eq_self, Nat.mul_one, Nat.zero_mul, Nat.one_mul, Int.le_refl, Nat.le_refl, Int.cast_ofNat_Int, Try.f12, Vial.t, Vial.cs, Rd.cs, hA, hB, hN, hl1, hl2, hfl, htk, hroom, hroom2, hxl, hus, huo, hun, allO_t, TE.t, Span.t, Span.cs, h1', h3, List.length_nil]
          · simp (decide := true) (maxSteps := 4000000) only [go_sem, Nat.reduceAdd, Nat.reduceSub, Nat.reduceMul, Nat.reduceDiv, Nat.reduceMod, Nat.reduceLT, Nat.reduceLeDiff, Nat.reduceEqDiff, Nat.reduceBEq, Nat.reduceBNe, Nat.reduceGT, Int.reduceAdd, Int.reduceSub, Int.reduceMul, Int.reduceNeg, Int.reduceLT, Int.reduceLE, Int.reduceEq, Int.reduceNe, Int.reduceBEq, Int.reduceBNe, Int.reduceToNat, Int.reduceGT, Int.reduceGE, ↓reduceIte, decide_true, decide_false, eq_self, Nat.mul_one, Nat.zero_mul, Nat.one_mul, Int.le_refl, Nat.le_refl, Int.cast_ofNat_Int, Try.f12, Vial.t, Vial.cs, Rd.cs, hA, hB, hN, hl1, hl2, hfl, htk, hroom, hroom2, hxl, hus, huo, hun, allO_t, TE.t, Span.t, Span.cs, h1', h3, hn]
end Go.Proofs.Ytgofljmnlfnlnaa
