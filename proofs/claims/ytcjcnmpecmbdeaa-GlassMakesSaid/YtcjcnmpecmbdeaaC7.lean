/- What the claim leans on, text 7. -/
import Derived.Test.YtcjcnmpecmbdeaaC6
set_option linter.unusedSimpArgs false
set_option linter.unusedVariables false

/- Part Gp3. -/
namespace Go.Oc
open Go Go.Pm
/-- The set of the blanks of some objectives, as a number. -/
def mtO (l : List Ob) : Nat := l.foldl (fun x o => x + (2 ^ o.f.toNat + 2 ^ o.s.toNat)) 0
theorem mt_snoc (l : List Ob) (o : Ob) : mtO (l ++ [o]) = mtO l + (2 ^ o.f.toNat + 2 ^ o.s.toNat) := by unfold mtO; rw [List.foldl_append]; rfl
theorem mt_to {l : List Ob} (h : ∀ o ∈ l, (0 ≤ o.f ∧ o.f < 8) ∧ (0 ≤ o.s ∧ o.s < 8) ∧ o.f ≠ o.s) (hp : l.Pairwise DisO) : ∀ k, k ≤ l.length → mtO (l.take k) < 256 ∧ ∀ j, j < 8 → (mtO (l.take k)).testBit j = (l.take k).any fun o => o.f.toNat == j || o.s.toNat == j
  | 0, _ => ⟨by rw [List.take_zero]; decide, fun j hj => by rw [List.take_zero]; show Nat.testBit 0 j = false; exact Nat.zero_testBit j⟩
  | k + 1, hk => by
    obtain ⟨h1, h2⟩ := mt_to h hp k (by omega)
    obtain ⟨x, hx⟩ := get_lt (l := l) (k := k) (by omega)
    obtain ⟨a, b, c⟩ := h x (List.mem_of_getElem? hx)
    have hpk : (l.take (k + 1)).Pairwise DisO := hp.sublist (List.take_sublist _ _)
    rw [take_snoc hx] at hpk ⊢
    rw [List.pairwise_append] at hpk
    have hd : ∀ o ∈ l.take k, DisO o x := fun o ho => hpk.2.2 o ho x (by simp)
    have hno : ∀ j : Nat, (j : Int) = x.f ∨ (j : Int) = x.s → (l.take k).any (fun o => o.f.toNat == j || o.s.toNat == j) = false := by
      intro j hj
      rw [← Bool.not_eq_true, List.any_eq_true]
      rintro ⟨o, ho, e⟩
      have d := hd o ho
      have q := h o (List.mem_of_mem_take ho)
      unfold DisO at d
      simp only [Bool.or_eq_true, beq_iff_eq] at e
      omega
    have f1 : (mtO (l.take k)).testBit x.f.toNat = false := by rw [h2 _ (by omega)]; exact hno _ (by omega)
    have e1 := fun j (hj : j < 8) => bit_add h1 (show x.f.toNat < 8 by omega) hj f1
    have f2 : (mtO (l.take k) + 2 ^ x.f.toNat).testBit x.s.toNat = false := by
      rw [(e1 _ (by omega)).1, h2 _ (by omega), hno _ (by omega)]
      simp; omega
    have e2 := fun j (hj : j < 8) => bit_add (e1 0 (by omega)).2 (show x.s.toNat < 8 by omega) hj f2
    rw [mt_snoc, ← Nat.add_assoc]
    refine ⟨(e2 0 (by omega)).2, fun j hj => ?_⟩
    rw [(e2 j hj).1, (e1 j hj).1, h2 j hj, List.any_append, Bool.or_assoc]
    simp
/-- The next objective's blanks are not in the set. -/
theorem mt_free {l : List Ob} (h : ∀ o ∈ l, (0 ≤ o.f ∧ o.f < 8) ∧ (0 ≤ o.s ∧ o.s < 8) ∧ o.f ≠ o.s) (hp : l.Pairwise DisO) {k : Nat} {x : Ob} (hx : l[k]? = some x) : (mtO (l.take k)).testBit x.f.toNat = false ∧ (mtO (l.take k)).testBit x.s.toNat = false := by
  have hk : k < l.length := by
    obtain ⟨hlt, _⟩ := List.getElem?_eq_some_iff.1 hx
    exact hlt
  obtain ⟨h1, h2⟩ := mt_to h hp k (by omega)
  obtain ⟨a, b, c⟩ := h x (List.mem_of_getElem? hx)
  have hpk : (l.take (k + 1)).Pairwise DisO := hp.sublist (List.take_sublist _ _)
  rw [take_snoc hx, List.pairwise_append] at hpk
  have hno : ∀ j : Nat, (j : Int) = x.f ∨ (j : Int) = x.s → (l.take k).any (fun o => o.f.toNat == j || o.s.toNat == j) = false := by
    intro j hj
    rw [← Bool.not_eq_true, List.any_eq_true]
    rintro ⟨o, ho, e⟩
    have d := hpk.2.2 o ho x (by simp)
    have q := h o (List.mem_of_mem_take ho)
    unfold DisO at d
    simp only [Bool.or_eq_true, beq_iff_eq] at e
    omega
  exact ⟨by rw [h2 _ (by omega)]; exact hno _ (by omega), by rw [h2 _ (by omega)]; exact hno _ (by omega)⟩
theorem shl_int {x : Int} (h : 0 ≤ x ∧ x < 8) : IntKind.i64.wrap (1 * 2 ^ min x.toNat 64) = ((2 ^ x.toNat : Nat) : Int) := shl_one (by omega)
end Go.Oc
namespace Go.Proofs.Ytcjcnmpecmbdeaa
open Go.RowKit Go.Pm Go.Oc
set_option maxRecDepth 100000
set_option linter.unusedVariables false
set_option maxHeartbeats 4000000

theorem r4AtOnce_c {B : List Blank} {T : List Span} {sB sT : TV} (hB : IsRow Blank.cs sB B) (hT : IsRow Span.cs sT T) (hlB : B.length ≤ 5864062014806) (hlT : T.length ≤ 9000000000000) (w : Want) {l : List Ob} {sl : TV} (hl : IsRow Ob.cs sl l)
    (hv : l = [] ∨ (stockOk B T = true ∧ wantOk w = true ∧ ValO (goodO B T w) (free B.length B.length Tk.none) l ∧ l.length ≤ 8)) : PCalls Try.prog 29 [.agg [sB, sT], w.t, sl] (.bool true) := by
  have rB := rowB_is hB
  have rT := rowT_is hT
  unfold rowL at rB rT
  refine pcalls_by Try.mixes spI1_ok (fn := Try.f29) Try.func29 rfl (by kernel_rfl) (by show 3 ≤ _; decide) ?_
  by_cases h0 : l.length = 0
  · have e0 : l = [] := List.length_eq_zero_iff.1 h0
    subst e0
    rcases hl with ⟨rfl, _⟩ | ⟨f1, rfl⟩
    all_goals
      simp (decide := true) (maxSteps := 4000000) only [go_sem, Nat.reduceAdd, Nat.reduceSub, Nat.reduceMul, Nat.reduceDiv, Nat.reduceMod, Nat.reduceLT, Nat.reduceLeDiff, Nat.reduceEqDiff, Nat.reduceBEq, Nat.reduceBNe, Nat.reduceGT, Int.reduceAdd, Int.reduceSub, Int.reduceMul, Int.reduceNeg, Int.reduceLT, Int.reduceLE, Int.reduceEq, Int.reduceNe, Int.reduceBEq, Int.reduceBNe, Int.reduceToNat, Int.reduceGT, Int.reduceGE, ↓reduceIte, decide_true, decide_false, eq_self, Nat.mul_one, Nat.zero_mul, Nat.one_mul, Int.le_refl, Nat.le_refl, Int.cast_ofNat_Int, Try.f29, Want.t, List.length_nil]
      refine pwpC_loopU (A := Unit) [2, 3, 4] (fun _ => [(8, .t (.int .i64 0)), (7, .t (.int .i64 0))]) (fun _ => []) (fun _ => 0) () (by decide) (fun _ => by rfl) ?_ fun Q1 hQ1 _ I1 hI1 => ?_
      · simp (decide := true) (maxSteps := 4000000) only [go_sem, Nat.reduceAdd, Nat.reduceSub, Nat.reduceMul, Nat.reduceDiv, Nat.reduceMod, Nat.reduceLT, Nat.reduceLeDiff, Nat.reduceEqDiff, Nat.reduceBEq, Nat.reduceBNe, Nat.reduceGT, Int.reduceAdd, Int.reduceSub, Int.reduceMul, Int.reduceNeg, Int.reduceLT, Int.reduceLE, Int.reduceEq, Int.reduceNe, Int.reduceBEq, Int.reduceBNe, Int.reduceToNat, Int.reduceGT, Int.reduceGE, ↓reduceIte, decide_true, decide_false, eq_self, Nat.mul_one, Nat.zero_mul, Nat.one_mul, Int.le_refl, Nat.le_refl, Int.cast_ofNat_Int]
        first | done | exact ⟨rfl, rfl⟩ | rfl
      · simp (decide := true) (maxSteps := 4000000) only [go_sem, Nat.reduceAdd, Nat.reduceSub, Nat.reduceMul, Nat.reduceDiv, Nat.reduceMod, Nat.reduceLT, Nat.reduceLeDiff, Nat.reduceEqDiff, Nat.reduceBEq, Nat.reduceBNe, Nat.reduceGT, Int.reduceAdd, Int.reduceSub, Int.reduceMul, Int.reduceNeg, Int.reduceLT, Int.reduceLE, Int.reduceEq, Int.reduceNe, Int.reduceBEq, Int.reduceBNe, Int.reduceToNat, Int.reduceGT, Int.reduceGE, ↓reduceIte, decide_true, decide_false, eq_self, Nat.mul_one, Nat.zero_mul, Nat.one_mul, Int.le_refl, Nat.le_refl, Int.cast_ofNat_Int, List.length_nil]
        refine hQ1 _ _ ?_
        simp (decide := true) (maxSteps := 4000000) only [go_sem, Nat.reduceAdd, Nat.reduceSub, Nat.reduceMul, Nat.reduceDiv, Nat.reduceMod, Nat.reduceLT, Nat.reduceLeDiff, Nat.reduceEqDiff, Nat.reduceBEq, Nat.reduceBNe, Nat.reduceGT, Int.reduceAdd, Int.reduceSub, Int.reduceMul, Int.reduceNeg, Int.reduceLT, Int.reduceLE, Int.reduceEq, Int.reduceNe, Int.reduceBEq, Int.reduceBNe, Int.reduceToNat, Int.reduceGT, Int.reduceGE, ↓reduceIte, decide_true, decide_false, eq_self, Nat.mul_one, Nat.zero_mul, Nat.one_mul, Int.le_refl, Nat.le_refl, Int.cast_ofNat_Int]
  · obtain ⟨f1, rfl⟩ := hl.ne (by omega)
    rcases hv with hv | ⟨hs, hw, hv, h8⟩
    · exact absurd (by rw [hv]; rfl) h0
    have hs' := stockOk_iff.1 hs
    have hob : ∀ o ∈ l, (0 ≤ o.f ∧ o.f < 8) ∧ (0 ≤ o.s ∧ o.s < 8) ∧ o.f ≠ o.s := by
      intro o ho
      obtain ⟨a, b, c, d, e, f⟩ := hv.1 o ho
      rw [free_all] at e f
      omega
    simp (decide := true) (maxSteps := 4000000) only [go_sem, Nat.reduceAdd, Nat.reduceSub, Nat.reduceMul, Nat.reduceDiv, Nat.reduceMod, Nat.reduceLT, Nat.reduceLeDiff, Nat.reduceEqDiff, Nat.reduceBEq, Nat.reduceBNe, Nat.reduceGT, Int.reduceAdd, Int.reduceSub, Int.reduceMul, Int.reduceNeg, Int.reduceLT, Int.reduceLE, Int.reduceEq, Int.reduceNe, Int.reduceBEq, Int.reduceBNe, Int.reduceToNat, Int.reduceGT, Int.reduceGE, ↓reduceIte, decide_true, decide_false, eq_self, Nat.mul_one, Nat.zero_mul, Nat.one_mul, Int.le_refl, Nat.le_refl, Int.cast_ofNat_Int, Try.f29, Want.t]
    refine pwpC_loopU (A := { k : Nat // k ≤ l.length }) [2, 3, 4] (fun k => [(8, .t (.int .i64 k.1)), (7, .t (.int .i64 (mtO (l.take k.1) : Nat)))]) (fun _ => []) (fun k => l.length - k.1) ⟨0, by omega⟩ (by decide) (fun _ => by rfl) ?_ fun Q1 hQ1 ⟨k, hk⟩ I1 hI1 => ?_
    · simp (decide := true) (maxSteps := 4000000) only [go_sem, Nat.reduceAdd, Nat.reduceSub, Nat.reduceMul, Nat.reduceDiv, Nat.reduceMod, Nat.reduceLT, Nat.reduceLeDiff, Nat.reduceEqDiff, Nat.reduceBEq, Nat.reduceBNe, Nat.reduceGT, Int.reduceAdd, Int.reduceSub, Int.reduceMul, Int.reduceNeg, Int.reduceLT, Int.reduceLE, Int.reduceEq, Int.reduceNe, Int.reduceBEq, Int.reduceBNe, Int.reduceToNat, Int.reduceGT, Int.reduceGE, ↓reduceIte, decide_true, decide_false, eq_self, Nat.mul_one, Nat.zero_mul, Nat.one_mul, Int.le_refl, Nat.le_refl, Int.cast_ofNat_Int, List.take_zero, mtO, List.foldl_nil]
      first | done | exact ⟨rfl, rfl⟩ | rfl
    · by_cases hlt : (k : Int) < l.length
      · obtain ⟨o, ho⟩ := get_lt hlt
        have hd := flat_at Ob.cs (n := 5) (fun _ => rfl) ho
        have hc1 : IntKind.i64.wrap (k + 1) = ((k + 1 : Nat) : Int) := by rw [wrap_in (by omega) (by omega)]; omega
        have hgo := (hv.1 o (List.mem_of_getElem? ho)).1
        unfold goodO at hgo
        rw [Bool.and_eq_true] at hgo
        have ge : goodE B T w o = (true, 0) := by unfold goodE askedG; rw [hs, hw, hgo.1, hgo.2]; rfl
        have hq := hob o (List.mem_of_getElem? ho)
        obtain ⟨hm1, hm2⟩ := mt_to hob hv.2 k (by omega)
        have hm3 := (mt_to hob hv.2 (k + 1) (by omega)).1
        obtain ⟨n1, n2⟩ := mt_free hob hv.2 ho
        rw [take_snoc ho, mt_snoc] at hm3
        have s1 := shl_int hq.1
        have s2 := shl_int hq.2.1
        have z1 : ¬ o.f < 0 := by omega
        have z2 : ¬ o.s < 0 := by omega
        have b1 : 0 ≤ ((mtO (l.take k) : Nat) : Int) ∧ 0 ≤ o.f ∧ o.f < 64 := by omega
        have b2 : 0 ≤ ((mtO (l.take k) : Nat) : Int) ∧ 0 ≤ o.s ∧ o.s < 64 := by omega
        have hnx : mtO (l.take (k + 1)) = mtO (l.take k) + (2 ^ o.f.toNat + 2 ^ o.s.toNat) := by rw [take_snoc ho, mt_snoc]
        obtain ⟨X, hX⟩ : ∃ X, 2 ^ o.f.toNat = X := ⟨_, rfl⟩
        obtain ⟨Y, hY⟩ : ∃ Y, 2 ^ o.s.toNat = Y := ⟨_, rfl⟩
        rw [hX] at s1 hnx hm3
        rw [hY] at s2 hnx hm3
        have w1 : IntKind.i64.wrap ((X : Int) + Y) = ((X + Y : Nat) : Int) := by rw [wrap_in (by omega) (by omega)]; omega
        have w2 : IntKind.i64.wrap (((mtO (l.take k) : Nat) : Int) + ((X + Y : Nat) : Int)) = ((mtO (l.take k) + (X + Y) : Nat) : Int) := by rw [wrap_in (by omega) (by omega)]; omega
        simp (decide := true) (maxSteps := 4000000) only [go_sem, Nat.reduceAdd, Nat.reduceSub, Nat.reduceMul, Nat.reduceDiv, Nat.reduceMod, Nat.reduceLT, Nat.reduceLeDiff, Nat.reduceEqDiff, Nat.reduceBEq, Nat.reduceBNe, Nat.reduceGT, Int.reduceAdd, Int.reduceSub, Int.reduceMul, Int.reduceNeg, Int.reduceLT, Int.reduceLE, Int.reduceEq, Int.reduceNe, Int.reduceBEq, Int.reduceBNe, Int.reduceToNat, Int.reduceGT, Int.reduceGE, ↓reduceIte, decide_true, decide_false, eq_self, Nat.mul_one, Nat.zero_mul, Nat.one_mul, Int.le_refl, Nat.le_refl, Int.cast_ofNat_Int, hlt, hd, Ob.cs, Want.t, rB, rT, hlB, hlT, ge, b1, b2, n1, n2, z1, z2, s1, s2, w1, w2, Int.toNat_natCast]
        refine hI1 _ ⟨k + 1, by omega⟩ (by simp only; omega) ?_
        simp (decide := true) (maxSteps := 4000000) only [go_sem, Nat.reduceAdd, Nat.reduceSub, Nat.reduceMul, Nat.reduceDiv, Nat.reduceMod, Nat.reduceLT, Nat.reduceLeDiff, Nat.reduceEqDiff, Nat.reduceBEq, Nat.reduceBNe, Nat.reduceGT, Int.reduceAdd, Int.reduceSub, Int.reduceMul, Int.reduceNeg, Int.reduceLT, Int.reduceLE, Int.reduceEq, Int.reduceNe, Int.reduceBEq, Int.reduceBNe, Int.reduceToNat, Int.reduceGT, Int.reduceGE, ↓reduceIte, decide_true, decide_false, eq_self, Nat.mul_one, Nat.zero_mul, Nat.one_mul, Int.le_refl, Nat.le_refl, Int.cast_ofNat_Int, hc1, hnx]
      · have hke : k = l.length := by omega
        subst hke
        simp (decide := true) (maxSteps := 4000000) only [go_sem, Nat.reduceAdd, Nat.reduceSub, Nat.reduceMul, Nat.reduceDiv, Nat.reduceMod, Nat.reduceLT, Nat.reduceLeDiff, Nat.reduceEqDiff, Nat.reduceBEq, Nat.reduceBNe, Nat.reduceGT, Int.reduceAdd, Int.reduceSub, Int.reduceMul, Int.reduceNeg, Int.reduceLT, Int.reduceLE, Int.reduceEq, Int.reduceNe, Int.reduceBEq, Int.reduceBNe, Int.reduceToNat, Int.reduceGT, Int.reduceGE, ↓reduceIte, decide_true, decide_false, eq_self, Nat.mul_one, Nat.zero_mul, Nat.one_mul, Int.le_refl, Nat.le_refl, Int.cast_ofNat_Int, hlt]
        refine hQ1 _ _ ?_
        simp (decide := true) (maxSteps := 4000000) only [go_sem, Nat.reduceAdd, Nat.reduceSub, Nat.reduceMul, Nat.reduceDiv, Nat.reduceMod, Nat.reduceLT, Nat.reduceLeDiff, Nat.reduceEqDiff, Nat.reduceBEq, Nat.reduceBNe, Nat.reduceGT, Int.reduceAdd, Int.reduceSub, Int.reduceMul, Int.reduceNeg, Int.reduceLT, Int.reduceLE, Int.reduceEq, Int.reduceNe, Int.reduceBEq, Int.reduceBNe, Int.reduceToNat, Int.reduceGT, Int.reduceGE, ↓reduceIte, decide_true, decide_false, eq_self, Nat.mul_one, Nat.zero_mul, Nat.one_mul, Int.le_refl, Nat.le_refl, Int.cast_ofNat_Int]
noncomputable def rMany : List TV → Option TV
  | [.agg [sB, sT], .agg [.int .i64 x, .int .i64 y, .int .i64 z]] => match rowL unBlanks sB, rowL unSpans sT with
    | some B, some T => if B.length ≤ 5864062014806 ∧ T.length ≤ 9000000000000 then some (.tup [.int .i64 (manyP B T ⟨⟨x, y⟩, z⟩).1, .int .i64 (manyP B T ⟨⟨x, y⟩, z⟩).2]) else none
    | _, _ => none
  | _ => none
theorem rMany_ok : ∀ xs r, rMany xs = some r → PCalls Try.prog 28 xs r := by
  intro xs r h
  unfold rMany at h
  split at h
  · split at h
    · rename_i B T hB hT
      split at h
      · rename_i hc; cases h
        exact r4Many_c (rowL_some (un := unBlanks) rfl (@unBlanks_some) hB) (rowL_some (un := unSpans) rfl (@unSpans_some) hT) hc.1 hc.2 ⟨⟨_, _⟩, _⟩
      · cases h
    · cases h
  · cases h
attribute [go_sem] rMany
open Classical in
noncomputable def rAtOnce (sB sT : TV) (w : Want) (sl : TV) : List TV → Option TV
  | [.agg [sB', sT'], .agg [.int .i64 x, .int .i64 y, .int .i64 z], s] => if sB' = sB ∧ sT' = sT ∧ (x = w.p.lo ∧ y = w.p.hi ∧ z = w.c) ∧ s = sl then some (.bool true) else none
  | _ => none
theorem rAtOnce_ok {sB sT : TV} {w : Want} {sl : TV} (h0 : PCalls Try.prog 29 [.agg [sB, sT], w.t, sl] (.bool true)) : ∀ xs r, rAtOnce sB sT w sl xs = some r → PCalls Try.prog 29 xs r := by
  intro xs r h
  unfold rAtOnce at h
  split at h
  · split at h
    · rename_i hc; cases h
      obtain ⟨rfl, rfl, ⟨rfl, rfl, rfl⟩, rfl⟩ := hc
      exact h0
    · cases h
  · cases h
attribute [go_sem] rAtOnce
theorem GlassMakes_c {B : List Blank} {T : List Span} {sB sT : TV} (hB : IsRow Blank.cs sB B) (hT : IsRow Span.cs sT T) (hlB : B.length ≤ 5864062014806) (hlT : T.length ≤ 9000000000000) (w : Want) : PCalls Try.prog 5 [.agg [sB, sT], w.t] (.bool true) := by
  have rB := rowB_is hB
  have rT := rowT_is hT
  unfold rowL at rB rT
  have hv : (mostP B T w).1 = [] ∨ (stockOk B T = true ∧ wantOk w = true ∧ ValO (goodO B T w) (free B.length B.length Tk.none) (mostP B T w).1 ∧ (mostP B T w).1.length ≤ 8) := by
    unfold mostP
    cases hs : stockOk B T with
    | false => left; rfl
    | true =>
      cases hw : wantOk w with
      | false => left; rfl
      | true =>
        have hs' := stockOk_iff.1 hs
        right
        have hln := joinP_len (ofO B T w) B.length B.length Tk.none
        exact ⟨rfl, rfl, most_val w (by omega) (by omega), by simp only [Bool.true_eq_false, if_false]; omega⟩
  have hm : manyP B T w = ((mostP B T w).1.length, (mostP B T w).2) := by
    unfold manyP mostP
    cases stockOk B T <;> cases wantOk w <;> rfl
  have hc := r4AtOnce_c hB hT hlB hlT w (rowJ_row _) hv
  obtain ⟨⟨l, e⟩, hM⟩ : ∃ M, mostP B T w = M := ⟨_, rfl⟩
  rw [hM] at hm hc
  simp only at hm hc
  refine pcalls_by Try.mixes (Spec.one_ok (rAtOnce_ok hc) (Spec.one_ok rMany_ok spI1_ok)) (fn := Try.f5) Try.func5 rfl (by kernel_rfl) (by show 2 ≤ _; decide) ?_
  by_cases h0 : l.length = 0
  · have er : rowJ l = .nilSl := by unfold rowJ; rw [if_pos h0]
    simp (decide := true) (maxSteps := 4000000) only [go_sem, Nat.reduceAdd, Nat.reduceSub, Nat.reduceMul, Nat.reduceDiv, Nat.reduceMod, Nat.reduceLT, Nat.reduceLeDiff, Nat.reduceEqDiff, Nat.reduceBEq, Nat.reduceBNe, Nat.reduceGT, Int.reduceAdd, Int.reduceSub, Int.reduceMul, Int.reduceNeg, Int.reduceLT, Int.reduceLE, Int.reduceEq, Int.reduceNe, Int.reduceBEq, Int.reduceBNe, Int.reduceToNat, Int.reduceGT, Int.reduceGE, ↓reduceIte, decide_true, decide_false, eq_self, Nat.mul_one, Nat.zero_mul, Nat.one_mul, Int.le_refl, Nat.le_refl, Int.cast_ofNat_Int, Try.f5, Want.t, rB, rT, hlB, hlT, hm, hM, er, h0, beq_self_eq_true]
  · have er : rowJ l = .sl (l.flatMap Ob.cs) l.length (l.length == 1) := by unfold rowJ; rw [if_neg h0]
    simp (decide := true) (maxSteps := 4000000) only [go_sem, Nat.reduceAdd, Nat.reduceSub, Nat.reduceMul, Nat.reduceDiv, Nat.reduceMod, Nat.reduceLT, Nat.reduceLeDiff, Nat.reduceEqDiff, Nat.reduceBEq, Nat.reduceBNe, Nat.reduceGT, Int.reduceAdd, Int.reduceSub, Int.reduceMul, Int.reduceNeg, Int.reduceLT, Int.reduceLE, Int.reduceEq, Int.reduceNe, Int.reduceBEq, Int.reduceBNe, Int.reduceToNat, Int.reduceGT, Int.reduceGE, ↓reduceIte, decide_true, decide_false, eq_self, Nat.mul_one, Nat.zero_mul, Nat.one_mul, Int.le_refl, Nat.le_refl, Int.cast_ofNat_Int, Try.f5, Want.t, rB, rT, hlB, hlT, hm, hM, er, beq_self_eq_true]
end Go.Proofs.Ytcjcnmpecmbdeaa
