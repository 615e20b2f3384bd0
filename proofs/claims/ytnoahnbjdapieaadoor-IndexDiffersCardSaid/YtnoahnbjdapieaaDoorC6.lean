/- What the claim leans on, text 6. -/
import Derived.Test.YtnoahnbjdapieaaDoorTie
import Derived.Test.YtnoahnbjdapieaaDoorCards
import Derived.LaidMore
import Derived.SevenTiedAt
import Derived.Test.YtnoahnbjdapieaaDoorC5
set_option linter.unusedSimpArgs false
set_option linter.unusedVariables false

/- Part Ih. -/
namespace Go.Oc
open Go Go.Pm
set_option maxRecDepth 100000
theorem candI_succ (t : Int) (l : List Int) (n : Int) (i j : Nat) : candI t l n i (j + 1) = candI t l n i j ++ candK t l n i (i + 1 + j) := by
  unfold candI
  rw [List.range'_concat, List.flatMap_append]
  simp
theorem cands_succ (t : Int) (l : List Int) (n : Int) (i : Nat) : cands t l n (i + 1) = cands t l n i ++ candI t l n i (l.length - (i + 1)) := by
  unfold cands
  rw [List.range_succ, List.flatMap_append]
  simp
theorem candI_zero (t : Int) (l : List Int) (n : Int) (i : Nat) : candI t l n i 0 = [] := rfl
/-- The compound plans before one, and the best of them. -/
def curL (t : Int) (l : List Int) (n : Int) (i j m : Nat) : List Pr := cands t l n i ++ (candI t l n i j ++ prsTo t (nthI l i) (nthI l ((i + 1 + j : Nat) : Int)) n i ((i + 1 + j : Nat) : Int) m)
def cur (t : Int) (l : List Int) (n : Int) (i j m : Nat) : Option Pr := minL (curL t l n i j m)
theorem cur_zero (t : Int) (l : List Int) (n : Int) (i j : Nat) : cur t l n i j 0 = minL (cands t l n i ++ candI t l n i j) := by
  unfold cur curL prsTo; simp
theorem cur_first (t : Int) (l : List Int) (n : Int) (i : Nat) : minL (cands t l n i ++ candI t l n i 0) = minL (cands t l n i) := by rw [candI_zero, List.append_nil]
theorem cur_last (t : Int) (l : List Int) (n : Int) (i j : Nat) : cur t l n i j 4001 = minL (cands t l n i ++ candI t l n i (j + 1)) := by
  unfold cur curL; rw [candI_succ]; rfl
theorem cur_skip (t : Int) (l : List Int) (n : Int) (i j : Nat) (h : ¬ t * nthI l i * nthI l ((i + 1 + j : Nat) : Int) % n = 0) : minL (cands t l n i ++ candI t l n i (j + 1)) = minL (cands t l n i ++ candI t l n i j) := by
  rw [candI_succ]
  have : candK t l n i (i + 1 + j) = [] := prsTo_no h _
  rw [this, List.append_nil]
theorem cur_next (t : Int) (l : List Int) (n : Int) (i : Nat) : minL (cands t l n i ++ candI t l n i (l.length - (i + 1))) = minL (cands t l n (i + 1)) := by rw [cands_succ]
theorem cur_no (t : Int) (l : List Int) (n : Int) (i j m : Nat) (h : prAt t (nthI l i) (nthI l ((i + 1 + j : Nat) : Int)) n i ((i + 1 + j : Nat) : Int) ((m : Int) - 2000) = none) : cur t l n i j (m + 1) = cur t l n i j m := by
  unfold cur curL; rw [prsTo_succ, h]; simp
theorem cur_some (t : Int) (l : List Int) (n : Int) (i j m : Nat) {p : Pr} (h : prAt t (nthI l i) (nthI l ((i + 1 + j : Nat) : Int)) n i ((i + 1 + j : Nat) : Int) ((m : Int) - 2000) = some p) : cur t l n i j (m + 1) = minS (cur t l n i j m) p := by
  unfold cur curL; rw [prsTo_succ, h, ← minL_snoc]; simp
theorem cands_b (t : Int) (l : List Int) (n : Int) (i : Nat) : ∀ p ∈ cands t l n i, prB p = true := by
  intro p hp
  unfold cands at hp
  obtain ⟨a, _, hp⟩ := List.mem_flatMap.1 hp
  unfold candI at hp
  obtain ⟨b, _, hp⟩ := List.mem_flatMap.1 hp
  exact List.all_eq_true.1 (prsP_b ..) p hp
theorem cur_b {t : Int} {l : List Int} {n : Int} {i j m : Nat} (hm' : m ≤ 4001) {q : Pr} (h : cur t l n i j m = some q) : prB q = true := by
  unfold cur at h
  rw [← bestF_min] at h
  have hm := bestF_mem _ h
  unfold curL at hm
  rcases List.mem_append.1 hm with hm | hm
  · exact cands_b _ _ _ _ q hm
  · rcases List.mem_append.1 hm with hm | hm
    · unfold candI at hm
      obtain ⟨b, _, hm⟩ := List.mem_flatMap.1 hm
      exact List.all_eq_true.1 (prsP_b ..) q hm
    · obtain ⟨k, _, hk⟩ := prsTo_mem.1 hm
      have h1 := prAt_eq hk
      have h2 := h1.2.2.1
      have h3 := h1.2.2.2.2.2.2
      rw [prB_iff]
      omega
end Go.Oc
namespace Go.Proofs.YtnoahnbjdapieaaDoor
open Go.RowKit Go.Pm Go.Oc
set_option maxRecDepth 100000
set_option linter.unusedVariables false
set_option maxHeartbeats 8000000

def boxPr (o : Option Pr) : PO := .box [.t (.int .i64 (o.getD ⟨0, 0, 0, 0⟩).a), .t (.int .i64 (o.getD ⟨0, 0, 0, 0⟩).b), .t (.int .i64 (o.getD ⟨0, 0, 0, 0⟩).x), .t (.int .i64 (o.getD ⟨0, 0, 0, 0⟩).y)]
theorem rCompound_c (t : Int) {l : List Int} {s : TV} (hl : IsRow ic s l) (hll : l.length ≤ 17592186044415) (n : Int) : PCalls Tryd.prog 20 [.agg [.int .i64 t, s], .int .i64 n] (.tup [(compE t l n).1.tv, .int .i64 (compE t l n).2]) := by
  have rI := rowI_is hl
  unfold rowL at rI
  refine pcalls_by Tryd.mixes spG2_ok (fn := Tryd.f20) Tryd.func20 rfl (by kernel_rfl) (by show 2 ≤ _; decide) ?_
  unfold compE
  cases h1 : headOk t l with
  | false => simp (decide := true) (maxSteps := 4000000) only [go_sem, Nat.reduceAdd, Nat.reduceSub, Nat.reduceMul, Nat.reduceDiv, Nat.reduceMod, Nat.reduceLT, Nat.reduceLeDiff, Nat.reduceEqDiff, Nat.reduceBEq, Nat.reduceBNe, Nat.reduceGT, Int.reduceAdd, Int.reduceSub, Int.reduceMul, Int.reduceNeg, Int.reduceLT, Int.reduceLE, Int.reduceEq, Int.reduceNe, Int.reduceBEq, Int.reduceBNe, Int.reduceToNat, Int.reduceGT, Int.reduceGE, ↓reduceIte, decide_true, decide_false, eq_self, Nat.mul_one, Nat.zero_mul, Nat.one_mul, Int.le_refl, Nat.le_refl, Int.cast_ofNat_Int, Tryd.f20, rI, hll, h1, Pr.tv, Pr.cs]
  | true =>
    cases h2 : inB n 1 20000 with
    | false => simp (decide := true) (maxSteps := 4000000) only [go_sem, Nat.reduceAdd, Nat.reduceSub, Nat.reduceMul, Nat.reduceDiv, Nat.reduceMod, Nat.reduceLT, Nat.reduceLeDiff, Nat.reduceEqDiff, Nat.reduceBEq, Nat.reduceBNe, Nat.reduceGT, Int.reduceAdd, Int.reduceSub, Int.reduceMul, Int.reduceNeg, Int.reduceLT, Int.reduceLE, Int.reduceEq, Int.reduceNe, Int.reduceBEq, Int.reduceBNe, Int.reduceToNat, Int.reduceGT, Int.reduceGE, ↓reduceIte, decide_true, decide_false, eq_self, Nat.mul_one, Nat.zero_mul, Nat.one_mul, Int.le_refl, Nat.le_refl, Int.cast_ofNat_Int, Tryd.f20, rI, hll, h1, h2, Pr.tv, Pr.cs]
    | true =>
      have hh := headOk_iff.1 h1
      have hn := inB_iff.1 h2
      have hn0 : ¬ n = 0 := by omega
      obtain ⟨f, rfl⟩ := hl.ne (by omega)
      rw [ic_ints] at rI ⊢
      simp only [unI_eq, if_true] at rI
      simp (decide := true) (maxSteps := 4000000) only [go_sem, Nat.reduceAdd, Nat.reduceSub, Nat.reduceMul, Nat.reduceDiv, Nat.reduceMod, Nat.reduceLT, Nat.reduceLeDiff, Nat.reduceEqDiff, Nat.reduceBEq, Nat.reduceBNe, Nat.reduceGT, Int.reduceAdd, Int.reduceSub, Int.reduceMul, Int.reduceNeg, Int.reduceLT, Int.reduceLE, Int.reduceEq, Int.reduceNe, Int.reduceBEq, Int.reduceBNe, Int.reduceToNat, Int.reduceGT, Int.reduceGE, ↓reduceIte, decide_true, decide_false, eq_self, Nat.mul_one, Nat.zero_mul, Nat.one_mul, Int.le_refl, Nat.le_refl, Int.cast_ofNat_Int, Tryd.f20, rI, hll, h1, h2]
      refine pwpC_loopU (A := { i : Nat // i ≤ l.length }) [1, 2, 4, 5, 6, 7] (fun i => [(9, .t (.int .i64 i.1)), (8, .t (.bool (minL (cands t l n i.1)).isSome))]) (fun i => [(2, boxPr (minL (cands t l n i.1)))]) (fun i => l.length - i.1) ⟨0, by omega⟩ (by decide) (fun _ => by rfl) ?_ fun Q1 hQ1 ⟨i, hi⟩ I1 hI1 => ?_
      · simp (decide := true) (maxSteps := 4000000) only [go_sem, Nat.reduceAdd, Nat.reduceSub, Nat.reduceMul, Nat.reduceDiv, Nat.reduceMod, Nat.reduceLT, Nat.reduceLeDiff, Nat.reduceEqDiff, Nat.reduceBEq, Nat.reduceBNe, Nat.reduceGT, Int.reduceAdd, Int.reduceSub, Int.reduceMul, Int.reduceNeg, Int.reduceLT, Int.reduceLE, Int.reduceEq, Int.reduceNe, Int.reduceBEq, Int.reduceBNe, Int.reduceToNat, Int.reduceGT, Int.reduceGE, ↓reduceIte, decide_true, decide_false, eq_self, Nat.mul_one, Nat.zero_mul, Nat.one_mul, Int.le_refl, Nat.le_refl, Int.cast_ofNat_Int, cands, List.range_zero, List.flatMap_nil, minL, List.foldl_nil, boxPr]
        first | done | exact ⟨rfl, rfl⟩ | rfl
      · by_cases hlt : (i : Int) < l.length
        · have hi1 : IntKind.i64.wrap ((i : Int) + 1) = ((i + 1 : Nat) : Int) := by rw [wrap_in (by omega) (by omega)]; omega
          have hcf := cur_first t l n i
          simp (decide := true) (maxSteps := 4000000) only [go_sem, Nat.reduceAdd, Nat.reduceSub, Nat.reduceMul, Nat.reduceDiv, Nat.reduceMod, Nat.reduceLT, Nat.reduceLeDiff, Nat.reduceEqDiff, Nat.reduceBEq, Nat.reduceBNe, Nat.reduceGT, Int.reduceAdd, Int.reduceSub, Int.reduceMul, Int.reduceNeg, Int.reduceLT, Int.reduceLE, Int.reduceEq, Int.reduceNe, Int.reduceBEq, Int.reduceBNe, Int.reduceToNat, Int.reduceGT, Int.reduceGE, ↓reduceIte, decide_true, decide_false, eq_self, Nat.mul_one, Nat.zero_mul, Nat.one_mul, Int.le_refl, Nat.le_refl, Int.cast_ofNat_Int, hlt, hi1]
          refine pwpC_loopU (A := { j : Nat // i + 1 + j ≤ l.length }) [1, 2, 4, 5, 6, 7, 9] (fun j => [(10, .t (.int .i64 ((i + 1 + j.1 : Nat) : Int))), (8, .t (.bool (minL (cands t l n i ++ candI t l n i j.1)).isSome))]) (fun j => [(2, boxPr (minL (cands t l n i ++ candI t l n i j.1)))]) (fun j => l.length - j.1) ⟨0, by omega⟩ (by decide) (fun _ => by rfl) ?_ fun Q2 hQ2 ⟨j, hj⟩ I2 hI2 => ?_
          · simp (decide := true) (maxSteps := 4000000) only [go_sem, Nat.reduceAdd, Nat.reduceSub, Nat.reduceMul, Nat.reduceDiv, Nat.reduceMod, Nat.reduceLT, Nat.reduceLeDiff, Nat.reduceEqDiff, Nat.reduceBEq, Nat.reduceBNe, Nat.reduceGT, Int.reduceAdd, Int.reduceSub, Int.reduceMul, Int.reduceNeg, Int.reduceLT, Int.reduceLE, Int.reduceEq, Int.reduceNe, Int.reduceBEq, Int.reduceBNe, Int.reduceToNat, Int.reduceGT, Int.reduceGE, ↓reduceIte, decide_true, decide_false, eq_self, Nat.mul_one, Nat.zero_mul, Nat.one_mul, Int.le_refl, Nat.le_refl, Int.cast_ofNat_Int, hcf, Nat.add_zero, boxPr]
          · by_cases hlt2 : ((i + 1 + j : Nat) : Int) < l.length
            · have hj1 : IntKind.i64.wrap (((i + 1 + j : Nat) : Int) + 1) = ((i + 1 + (j + 1) : Nat) : Int) := by rw [wrap_in (by omega) (by omega)]; omega
              obtain ⟨k, hk⟩ : ∃ k, i + 1 + j = k := ⟨_, rfl⟩
              have hcz := cur_zero t l n i j
              have hcl := cur_last t l n i j
              have hcs := cur_skip t l n i j
              have hcno := cur_no t l n i j
              have hcso := fun m p => cur_some t l n i j m (p := p)
              rw [hk] at hlt2 hj1 hcs hcno hcso ⊢
              obtain ⟨a, hxa⟩ := get_lt hlt
              obtain ⟨b, hxb⟩ := get_lt hlt2
              have hda := ints_at hxa
              have hdb := ints_at hxb
              rw [Nat.mul_one] at hda hdb
              have hba := head_at h1 hxa
              have hbb := head_at h1 hxb
              have hna := nthI_at hxa
              have hnb := nthI_at hxb
              rw [hna, hnb] at hcs hcno hcso
              have m1 := mulB (a := t) (b := a) (A := 400) (B := 200) (by omega) (by omega) (by omega) (by omega)
              have w1 : IntKind.i64.wrap (t * a) = t * a := wrap_in (by omega) (by omega)
              have m2 := mulB (a := t * a) (b := b) (A := 80000) (B := 200) m1.1 (by omega) (by omega) (by omega)
              have w2 : IntKind.i64.wrap (t * a * b) = t * a * b := wrap_in (by omega) (by omega)
              by_cases hd : t * a * b % n = 0
              · have hd1 : ((t * a * b).tmod n != 0) = false := bne_int_f (tmod_iff.2 hd)
                obtain ⟨W, hW⟩ : ∃ W, t * a * b / n = W := ⟨_, rfl⟩
                have hW0 : 0 ≤ W := by rw [← hW]; exact Int.ediv_nonneg m2.1 (by omega)
                have hW1 : W ≤ 16000000 := by have := Int.ediv_le_self n m2.1; omega
                have w5 : IntKind.i64.wrap ((t * a * b).tdiv n) = W := by rw [tdiv_of hd, hW]; exact wrap_in (by omega) (by omega)
                simp (decide := true) (maxSteps := 4000000) only [go_sem, Nat.reduceAdd, Nat.reduceSub, Nat.reduceMul, Nat.reduceDiv, Nat.reduceMod, Nat.reduceLT, Nat.reduceLeDiff, Nat.reduceEqDiff, Nat.reduceBEq, Nat.reduceBNe, Nat.reduceGT, Int.reduceAdd, Int.reduceSub, Int.reduceMul, Int.reduceNeg, Int.reduceLT, Int.reduceLE, Int.reduceEq, Int.reduceNe, Int.reduceBEq, Int.reduceBNe, Int.reduceToNat, Int.reduceGT, Int.reduceGE, ↓reduceIte, decide_true, decide_false, eq_self, Nat.mul_one, Nat.zero_mul, Nat.one_mul, Int.le_refl, Nat.le_refl, Int.cast_ofNat_Int, hlt, hlt2, hda, hdb, w1, w2, hn0, hd1, w5]
                refine pwpC_loopU (A := { m : Nat // m ≤ 4001 }) [1, 2, 4, 5, 6, 7, 9, 10, 11, 12, 13] (fun m => [(14, .t (.int .i64 ((m.1 : Int) - 2000))), (8, .t (.bool (cur t l n i j m.1).isSome))]) (fun m => [(2, boxPr (cur t l n i j m.1))]) (fun m => 4001 - m.1) ⟨0, by omega⟩ (by decide) (fun _ => by rfl) ?_ fun Q3 hQ3 ⟨m, hm⟩ I3 hI3 => ?_
                · simp (decide := true) (maxSteps := 4000000) only [go_sem, Nat.reduceAdd, Nat.reduceSub, Nat.reduceMul, Nat.reduceDiv, Nat.reduceMod, Nat.reduceLT, Nat.reduceLeDiff, Nat.reduceEqDiff, Nat.reduceBEq, Nat.reduceBNe, Nat.reduceGT, Int.reduceAdd, Int.reduceSub, Int.reduceMul, Int.reduceNeg, Int.reduceLT, Int.reduceLE, Int.reduceEq, Int.reduceNe, Int.reduceBEq, Int.reduceBNe, Int.reduceToNat, Int.reduceGT, Int.reduceGE, ↓reduceIte, decide_true, decide_false, eq_self, Nat.mul_one, Nat.zero_mul, Nat.one_mul, Int.le_refl, Nat.le_refl, Int.cast_ofNat_Int, hcz, boxPr]
                  first | done | rfl
                · by_cases hlt3 : (m : Int) - 2000 ≤ 2000
                  · have hm1 : IntKind.i64.wrap ((m : Int) - 2000 + 1) = ((m + 1 : Nat) : Int) - 2000 := by rw [wrap_in (by omega) (by omega)]; omega
                    have hcno := hcno m
                    have hcso := hcso m
                    obtain ⟨x, hx⟩ : ∃ x, (m : Int) - 2000 = x := ⟨_, rfl⟩
                    have hx1 : -2000 ≤ x ∧ x ≤ 2000 := by omega
                    have mx : -400000 ≤ x * b ∧ x * b ≤ 400000 := by
                      have h1 : x * b ≤ 2000 * b := Int.mul_le_mul_of_nonneg_right hx1.2 (by omega)
                      have h2 : -2000 * b ≤ x * b := Int.mul_le_mul_of_nonneg_right hx1.1 (by omega)
                      omega
                    have wxb : IntKind.i64.wrap (x * b) = x * b := wrap_in (by omega) (by omega)
                    obtain ⟨R, hR⟩ : ∃ R, W - x * b = R := ⟨_, rfl⟩
                    have wR : IntKind.i64.wrap (W - x * b) = R := by rw [← hR]; exact wrap_in (by omega) (by omega)
                    have hpr : prAt t a b n i k x = if R % a = 0 ∧ inB (R / a) (-2000) 2000 = true then some ⟨i, k, x, R / a⟩ else none := by
                      unfold prAt
                      rw [hW, hR]
                      by_cases h : R % a = 0 ∧ inB (R / a) (-2000) 2000 = true
                      · rw [if_pos ⟨hd, h.1, h.2⟩, if_pos h]
                      · rw [if_neg fun hc => h ⟨hc.2.1, hc.2.2⟩, if_neg h]
                    rw [hx] at hlt3 hm1 hcno hcso ⊢
                    rw [hpr] at hcno hcso
                    have cM : 0 < a ∧ a ≤ 9223372036854775807 := by omega
                    have cD : (-4000000000000000000 ≤ R ∧ R ≤ 4000000000000000000) ∧ 0 < a ∧ a ≤ 4000000000000000000 := by omega
                    by_cases hRa : R % a = 0
                    · have hRa1 : (R % a != 0) = false := bne_int_f hRa
                      cases hY : inB (R / a) (-2000) 2000 with
                      | false =>
                        rw [hY, if_neg (by simp)] at hcno
                        have hcno := hcno rfl
                        simp (decide := true) (maxSteps := 4000000) only [go_sem, Nat.reduceAdd, Nat.reduceSub, Nat.reduceMul, Nat.reduceDiv, Nat.reduceMod, Nat.reduceLT, Nat.reduceLeDiff, Nat.reduceEqDiff, Nat.reduceBEq, Nat.reduceBNe, Nat.reduceGT, Int.reduceAdd, Int.reduceSub, Int.reduceMul, Int.reduceNeg, Int.reduceLT, Int.reduceLE, Int.reduceEq, Int.reduceNe, Int.reduceBEq, Int.reduceBNe, Int.reduceToNat, Int.reduceGT, Int.reduceGE, ↓reduceIte, decide_true, decide_false, eq_self, Nat.mul_one, Nat.zero_mul, Nat.one_mul, Int.le_refl, Nat.le_refl, Int.cast_ofNat_Int, hlt3, wxb, wR, cM, cD, hRa1, hY]
                        refine hI3 _ ⟨m + 1, by omega⟩ (by simp only; omega) ?_
                        simp (decide := true) (maxSteps := 4000000) only [go_sem, Nat.reduceAdd, Nat.reduceSub, Nat.reduceMul, Nat.reduceDiv, Nat.reduceMod, Nat.reduceLT, Nat.reduceLeDiff, Nat.reduceEqDiff, Nat.reduceBEq, Nat.reduceBNe, Nat.reduceGT, Int.reduceAdd, Int.reduceSub, Int.reduceMul, Int.reduceNeg, Int.reduceLT, Int.reduceLE, Int.reduceEq, Int.reduceNe, Int.reduceBEq, Int.reduceBNe, Int.reduceToNat, Int.reduceGT, Int.reduceGE, ↓reduceIte, decide_true, decide_false, eq_self, Nat.mul_one, Nat.zero_mul, Nat.one_mul, Int.le_refl, Nat.le_refl, Int.cast_ofNat_Int, hm1, hcno, boxPr]
                      | true =>
                        rw [hY, if_pos ⟨hRa, rfl⟩] at hcso
                        have hcso := hcso _ rfl
                        have hYb := inB_iff.1 hY
                        obtain ⟨y, hy⟩ : ∃ y, R / a = y := ⟨_, rfl⟩
                        rw [hy] at hcso hYb hY
                        have wx0 : IntKind.i64.wrap (0 - x) = -x := by rw [wrap_in (by omega) (by omega)]; omega
                        have wy0 : IntKind.i64.wrap (0 - y) = -y := by rw [wrap_in (by omega) (by omega)]; omega
                        have wh : IntKind.i64.wrap (max x (-x) + max y (-y)) = max x (-x) + max y (-y) := wrap_in (by omega) (by omega)
                        cases ho : cur t l n i j m with
                        | none =>
                          rw [ho] at hcso
                          simp only [minS] at hcso
                          simp (decide := true) (maxSteps := 4000000) only [go_sem, Nat.reduceAdd, Nat.reduceSub, Nat.reduceMul, Nat.reduceDiv, Nat.reduceMod, Nat.reduceLT, Nat.reduceLeDiff, Nat.reduceEqDiff, Nat.reduceBEq, Nat.reduceBNe, Nat.reduceGT, Int.reduceAdd, Int.reduceSub, Int.reduceMul, Int.reduceNeg, Int.reduceLT, Int.reduceLE, Int.reduceEq, Int.reduceNe, Int.reduceBEq, Int.reduceBNe, Int.reduceToNat, Int.reduceGT, Int.reduceGE, ↓reduceIte, decide_true, decide_false, eq_self, Nat.mul_one, Nat.zero_mul, Nat.one_mul, Int.le_refl, Nat.le_refl, Int.cast_ofNat_Int, hlt3, wxb, wR, cM, cD, hRa1, hy, hY, ho, boxPr, wx0, wy0, wh]
                          refine hI3 _ ⟨m + 1, by omega⟩ (by simp only; omega) ?_
                          simp (decide := true) (maxSteps := 4000000) only [go_sem, Nat.reduceAdd, Nat.reduceSub, Nat.reduceMul, Nat.reduceDiv, Nat.reduceMod, Nat.reduceLT, Nat.reduceLeDiff, Nat.reduceEqDiff, Nat.reduceBEq, Nat.reduceBNe, Nat.reduceGT, Int.reduceAdd, Int.reduceSub, Int.reduceMul, Int.reduceNeg, Int.reduceLT, Int.reduceLE, Int.reduceEq, Int.reduceNe, Int.reduceBEq, Int.reduceBNe, Int.reduceToNat, Int.reduceGT, Int.reduceGE, ↓reduceIte, decide_true, decide_false, eq_self, Nat.mul_one, Nat.zero_mul, Nat.one_mul, Int.le_refl, Nat.le_refl, Int.cast_ofNat_Int, hm1, hcso, boxPr]
                        | some q =>
                          have hqb := prB_iff.1 (cur_b hm ho)
                          rw [ho] at hcso
                          obtain ⟨qa, qb, qx, qy⟩ := q
                          simp only at hqb
                          have vx0 : IntKind.i64.wrap (0 - qx) = -qx := by rw [wrap_in (by omega) (by omega)]; omega
                          have vy0 : IntKind.i64.wrap (0 - qy) = -qy := by rw [wrap_in (by omega) (by omega)]; omega
                          have vh : IntKind.i64.wrap (max qx (-qx) + max qy (-qy)) = max qx (-qx) + max qy (-qy) := wrap_in (by omega) (by omega)
                          by_cases hless : max x (-x) + max y (-y) < max qx (-qx) + max qy (-qy)
                          · have hcso : cur t l n i j (m + 1) = some ⟨i, k, x, y⟩ := by rw [hcso]; unfold minS holP; exact if_pos hless
                            simp (decide := true) (maxSteps := 4000000) only [go_sem, Nat.reduceAdd, Nat.reduceSub, Nat.reduceMul, Nat.reduceDiv, Nat.reduceMod, Nat.reduceLT, Nat.reduceLeDiff, Nat.reduceEqDiff, Nat.reduceBEq, Nat.reduceBNe, Nat.reduceGT, Int.reduceAdd, Int.reduceSub, Int.reduceMul, Int.reduceNeg, Int.reduceLT, Int.reduceLE, Int.reduceEq, Int.reduceNe, Int.reduceBEq, Int.reduceBNe, Int.reduceToNat, Int.reduceGT, Int.reduceGE, ↓reduceIte, decide_true, decide_false, eq_self, Nat.mul_one, Nat.zero_mul, Nat.one_mul, Int.le_refl, Nat.le_refl, Int.cast_ofNat_Int, hlt3, wxb, wR, cM, cD, hRa1, hy, hY, ho, boxPr, wx0, wy0, wh, vx0, vy0, vh, hless]
                            refine hI3 _ ⟨m + 1, by omega⟩ (by simp only; omega) ?_
                            simp (decide := true) (maxSteps := 4000000) only [go_sem, Nat.reduceAdd, Nat.reduceSub, Nat.reduceMul, Nat.reduceDiv, Nat.reduceMod, Nat.reduceLT, Nat.reduceLeDiff, Nat.reduceEqDiff, Nat.reduceBEq, Nat.reduceBNe, Nat.reduceGT, Int.reduceAdd, Int.reduceSub, Int.reduceMul, Int.reduceNeg, Int.reduceLT, Int.reduceLE, Int.reduceEq, Int.reduceNe, Int.reduceBEq, Int.reduceBNe, Int.reduceToNat, Int.reduceGT, Int.reduceGE, ↓reduceIte, decide_true, decide_false, eq_self, Nat.mul_one, Nat.zero_mul, Nat.one_mul, Int.le_refl, Nat.le_refl, Int.cast_ofNat_Int, hm1, hcso, boxPr]
                          · have hcso : cur t l n i j (m + 1) = some ⟨qa, qb, qx, qy⟩ := by rw [hcso]; unfold minS holP; exact if_neg hless
                            simp (decide := true) (maxSteps := 4000000) only [go_sem, Nat.reduceAdd, Nat.reduceSub, Nat.reduceMul, Nat.reduceDiv, Nat.reduceMod, Nat.reduceLT, Nat.reduceLeDiff, Nat.reduceEqDiff, Nat.reduceBEq, Nat.reduceBNe, Nat.reduceGT, Int.reduceAdd, Int.reduceSub, Int.reduceMul, Int.reduceNeg, Int.reduceLT, Int.reduceLE, Int.reduceEq, Int.reduceNe, Int.reduceBEq, Int.reduceBNe, Int.reduceToNat, Int.reduceGT, Int.reduceGE, ↓reduceIte, decide_true, decide_false, eq_self, Nat.mul_one, Nat.zero_mul, Nat.one_mul, Int.le_refl, Nat.le_refl, Int.cast_ofNat_Int, hlt3, wxb, wR, cM, cD, hRa1, hy, hY, ho, boxPr, wx0, wy0, wh, vx0, vy0, vh, hless]
                            refine hI3 _ ⟨m + 1, by omega⟩ (by simp only; omega) ?_
                            simp (decide := true) (maxSteps := 4000000) only [go_sem, Nat.reduceAdd, Nat.reduceSub, Nat.reduceMul, Nat.reduceDiv, Nat.reduceMod, Nat.reduceLT, Nat.reduceLeDiff, Nat.reduceEqDiff, Nat.reduceBEq, Nat.reduceBNe, Nat.reduceGT, Int.reduceAdd, Int.reduceSub, Int.reduceMul, Int.reduceNeg, Int.reduceLT, Int.reduceLE, Int.reduceEq, Int.reduceNe, Int.reduceBEq, Int.reduceBNe, Int.reduceToNat, Int.reduceGT, Int.reduceGE, ↓reduceIte, decide_true, decide_false, eq_self, Nat.mul_one, Nat.zero_mul, Nat.one_mul, Int.le_refl, Nat.le_refl, Int.cast_ofNat_Int, hm1, hcso, boxPr]
                    · have hRa1 : (R % a != 0) = true := bne_int_t hRa
                      rw [if_neg (fun h => hRa h.1)] at hcno
                      have hcno := hcno rfl
                      simp (decide := true) (maxSteps := 4000000) only [go_sem, Nat.reduceAdd, Nat.reduceSub, Nat.reduceMul, Nat.reduceDiv, Nat.reduceMod, Nat.reduceLT, Nat.reduceLeDiff, Nat.reduceEqDiff, Nat.reduceBEq, Nat.reduceBNe, Nat.reduceGT, Int.reduceAdd, Int.reduceSub, Int.reduceMul, Int.reduceNeg, Int.reduceLT, Int.reduceLE, Int.reduceEq, Int.reduceNe, Int.reduceBEq, Int.reduceBNe, Int.reduceToNat, Int.reduceGT, Int.reduceGE, ↓reduceIte, decide_true, decide_false, eq_self, Nat.mul_one, Nat.zero_mul, Nat.one_mul, Int.le_refl, Nat.le_refl, Int.cast_ofNat_Int, hlt3, wxb, wR, cM, cD, hRa1]
                      refine hI3 _ ⟨m + 1, by omega⟩ (by simp only; omega) ?_
                      simp (decide := true) (maxSteps := 4000000) only [go_sem, Nat.reduceAdd, Nat.reduceSub, Nat.reduceMul, Nat.reduceDiv, Nat.reduceMod, Nat.reduceLT, Nat.reduceLeDiff, Nat.reduceEqDiff, Nat.reduceBEq, Nat.reduceBNe, Nat.reduceGT, Int.reduceAdd, Int.reduceSub, Int.reduceMul, Int.reduceNeg, Int.reduceLT, Int.reduceLE, Int.reduceEq, Int.reduceNe, Int.reduceBEq, Int.reduceBNe, Int.reduceToNat, Int.reduceGT, Int.reduceGE, ↓reduceIte, decide_true, decide_false, eq_self, Nat.mul_one, Nat.zero_mul, Nat.one_mul, Int.le_refl, Nat.le_refl, Int.cast_ofNat_Int, hm1, hcno, boxPr]
                  · have hme : m = 4001 := by omega
                    subst hme
                    simp (decide := true) (maxSteps := 4000000) only [go_sem, Nat.reduceAdd, Nat.reduceSub, Nat.reduceMul, Nat.reduceDiv, Nat.reduceMod, Nat.reduceLT, Nat.reduceLeDiff, Nat.reduceEqDiff, Nat.reduceBEq, Nat.reduceBNe, Nat.reduceGT, Int.reduceAdd, Int.reduceSub, Int.reduceMul, Int.reduceNeg, Int.reduceLT, Int.reduceLE, Int.reduceEq, Int.reduceNe, Int.reduceBEq, Int.reduceBNe, Int.reduceToNat, Int.reduceGT, Int.reduceGE, ↓reduceIte, decide_true, decide_false, eq_self, Nat.mul_one, Nat.zero_mul, Nat.one_mul, Int.le_refl, Nat.le_refl, Int.cast_ofNat_Int, hlt3]
                    refine hQ3 _ _ ?_
                    simp (decide := true) (maxSteps := 4000000) only [go_sem, Nat.reduceAdd, Nat.reduceSub, Nat.reduceMul, Nat.reduceDiv, Nat.reduceMod, Nat.reduceLT, Nat.reduceLeDiff, Nat.reduceEqDiff, Nat.reduceBEq, Nat.reduceBNe, Nat.reduceGT, Int.reduceAdd, Int.reduceSub, Int.reduceMul, Int.reduceNeg, Int.reduceLT, Int.reduceLE, Int.reduceEq, Int.reduceNe, Int.reduceBEq, Int.reduceBNe, Int.reduceToNat, Int.reduceGT, Int.reduceGE, ↓reduceIte, decide_true, decide_false, eq_self, Nat.mul_one, Nat.zero_mul, Nat.one_mul, Int.le_refl, Nat.le_refl, Int.cast_ofNat_Int, hcl]
                    refine hI2 _ ⟨j + 1, by omega⟩ (by simp only; omega) ?_
                    simp (decide := true) (maxSteps := 4000000) only [go_sem, Nat.reduceAdd, Nat.reduceSub, Nat.reduceMul, Nat.reduceDiv, Nat.reduceMod, Nat.reduceLT, Nat.reduceLeDiff, Nat.reduceEqDiff, Nat.reduceBEq, Nat.reduceBNe, Nat.reduceGT, Int.reduceAdd, Int.reduceSub, Int.reduceMul, Int.reduceNeg, Int.reduceLT, Int.reduceLE, Int.reduceEq, Int.reduceNe, Int.reduceBEq, Int.reduceBNe, Int.reduceToNat, Int.reduceGT, Int.reduceGE, ↓reduceIte, decide_true, decide_false, eq_self, Nat.mul_one, Nat.zero_mul, Nat.one_mul, Int.le_refl, Nat.le_refl, Int.cast_ofNat_Int, hj1, boxPr]
                    first | done | rfl
              · have hd1 : ((t * a * b).tmod n != 0) = true := bne_int_t (fun h => hd (tmod_iff.1 h))
                have hcs := hcs hd
                simp (decide := true) (maxSteps := 4000000) only [go_sem, Nat.reduceAdd, Nat.reduceSub, Nat.reduceMul, Nat.reduceDiv, Nat.reduceMod, Nat.reduceLT, Nat.reduceLeDiff, Nat.reduceEqDiff, Nat.reduceBEq, Nat.reduceBNe, Nat.reduceGT, Int.reduceAdd, Int.reduceSub, Int.reduceMul, Int.reduceNeg, Int.reduceLT, Int.reduceLE, Int.reduceEq, Int.reduceNe, Int.reduceBEq, Int.reduceBNe, Int.reduceToNat, Int.reduceGT, Int.reduceGE, ↓reduceIte, decide_true, decide_false, eq_self, Nat.mul_one, Nat.zero_mul, Nat.one_mul, Int.le_refl, Nat.le_refl, Int.cast_ofNat_Int, hlt, hlt2, hda, hdb, w1, w2, hn0, hd1]
                refine hI2 _ ⟨j + 1, by omega⟩ (by simp only; omega) ?_
                simp (decide := true) (maxSteps := 4000000) only [go_sem, Nat.reduceAdd, Nat.reduceSub, Nat.reduceMul, Nat.reduceDiv, Nat.reduceMod, Nat.reduceLT, Nat.reduceLeDiff, Nat.reduceEqDiff, Nat.reduceBEq, Nat.reduceBNe, Nat.reduceGT, Int.reduceAdd, Int.reduceSub, Int.reduceMul, Int.reduceNeg, Int.reduceLT, Int.reduceLE, Int.reduceEq, Int.reduceNe, Int.reduceBEq, Int.reduceBNe, Int.reduceToNat, Int.reduceGT, Int.reduceGE, ↓reduceIte, decide_true, decide_false, eq_self, Nat.mul_one, Nat.zero_mul, Nat.one_mul, Int.le_refl, Nat.le_refl, Int.cast_ofNat_Int, hj1, hcs, boxPr]
                first | done | rfl
            · have hje : l.length - (i + 1) = j := by omega
              have hcn := cur_next t l n i
              rw [hje] at hcn
              simp (decide := true) (maxSteps := 4000000) only [go_sem, Nat.reduceAdd, Nat.reduceSub, Nat.reduceMul, Nat.reduceDiv, Nat.reduceMod, Nat.reduceLT, Nat.reduceLeDiff, Nat.reduceEqDiff, Nat.reduceBEq, Nat.reduceBNe, Nat.reduceGT, Int.reduceAdd, Int.reduceSub, Int.reduceMul, Int.reduceNeg, Int.reduceLT, Int.reduceLE, Int.reduceEq, Int.reduceNe, Int.reduceBEq, Int.reduceBNe, Int.reduceToNat, Int.reduceGT, Int.reduceGE, ↓reduceIte, decide_true, decide_false, eq_self, Nat.mul_one, Nat.zero_mul, Nat.one_mul, Int.le_refl, Nat.le_refl, Int.cast_ofNat_Int, hlt2]
              refine hQ2 _ _ ?_
              simp (decide := true) (maxSteps := 4000000) only [go_sem, Nat.reduceAdd, Nat.reduceSub, Nat.reduceMul, Nat.reduceDiv, Nat.reduceMod, Nat.reduceLT, Nat.reduceLeDiff, Nat.reduceEqDiff, Nat.reduceBEq, Nat.reduceBNe, Nat.reduceGT, Int.reduceAdd, Int.reduceSub, Int.reduceMul, Int.reduceNeg, Int.reduceLT, Int.reduceLE, Int.reduceEq, Int.reduceNe, Int.reduceBEq, Int.reduceBNe, Int.reduceToNat, Int.reduceGT, Int.reduceGE, ↓reduceIte, decide_true, decide_false, eq_self, Nat.mul_one, Nat.zero_mul, Nat.one_mul, Int.le_refl, Nat.le_refl, Int.cast_ofNat_Int]
              refine hI1 _ ⟨i + 1, by omega⟩ (by simp only; omega) ?_
              simp (decide := true) (maxSteps := 4000000) only [go_sem, Nat.reduceAdd, Nat.reduceSub, Nat.reduceMul, Nat.reduceDiv, Nat.reduceMod, Nat.reduceLT, Nat.reduceLeDiff, Nat.reduceEqDiff, Nat.reduceBEq, Nat.reduceBNe, Nat.reduceGT, Int.reduceAdd, Int.reduceSub, Int.reduceMul, Int.reduceNeg, Int.reduceLT, Int.reduceLE, Int.reduceEq, Int.reduceNe, Int.reduceBEq, Int.reduceBNe, Int.reduceToNat, Int.reduceGT, Int.reduceGE, ↓reduceIte, decide_true, decide_false, eq_self, Nat.mul_one, Nat.zero_mul, Nat.one_mul, Int.le_refl, Nat.le_refl, Int.cast_ofNat_Int, hi1, hcn, boxPr]
        · have hie : i = l.length := by omega
          subst hie
          have hco : compP t l n = minL (cands t l n l.length) := rfl
          simp (decide := true) (maxSteps := 4000000) only [go_sem, Nat.reduceAdd, Nat.reduceSub, Nat.reduceMul, Nat.reduceDiv, Nat.reduceMod, Nat.reduceLT, Nat.reduceLeDiff, Nat.reduceEqDiff, Nat.reduceBEq, Nat.reduceBNe, Nat.reduceGT, Int.reduceAdd, Int.reduceSub, Int.reduceMul, Int.reduceNeg, Int.reduceLT, Int.reduceLE, Int.reduceEq, Int.reduceNe, Int.reduceBEq, Int.reduceBNe, Int.reduceToNat, Int.reduceGT, Int.reduceGE, ↓reduceIte, decide_true, decide_false, eq_self, Nat.mul_one, Nat.zero_mul, Nat.one_mul, Int.le_refl, Nat.le_refl, Int.cast_ofNat_Int, hlt]
          refine hQ1 _ _ ?_
          cases ho : minL (cands t l n l.length) <;> rw [ho] at hco <;> simp (decide := true) (maxSteps := 4000000) only [go_sem, Nat.reduceAdd, Nat.reduceSub, Nat.reduceMul, Nat.reduceDiv, Nat.reduceMod, Nat.reduceLT, Nat.reduceLeDiff, Nat.reduceEqDiff, Nat.reduceBEq, Nat.reduceBNe, Nat.reduceGT, Int.reduceAdd, Int.reduceSub, Int.reduceMul, Int.reduceNeg, Int.reduceLT, Int.reduceLE, Int.reduceEq, Int.reduceNe, Int.reduceBEq, Int.reduceBNe, Int.reduceToNat, Int.reduceGT, Int.reduceGE, ↓reduceIte, decide_true, decide_false, eq_self, Nat.mul_one, Nat.zero_mul, Nat.one_mul, Int.le_refl, Nat.le_refl, Int.cast_ofNat_Int, hco, boxPr, Pr.tv, Pr.cs]
end Go.Proofs.YtnoahnbjdapieaaDoor

/- Part Ii. -/
namespace Go.Oc
open Go Go.Pm
set_option maxRecDepth 100000
theorem place_if {a n k : Int} (hn : 0 < n) : (k * a - k * a / n * n ≤ (k * a / n + 1) * n - k * a ↔ 2 * (k * a % n) ≤ n) := by
  have h1 := Int.mul_ediv_add_emod (k * a) n
  rw [Int.add_mul, Int.one_mul, Int.mul_comm (k * a / n) n]
  generalize n * (k * a / n) = z at *
  generalize k * a % n = r at *
  generalize k * a = y at *
  omega
end Go.Oc
namespace Go.Proofs.YtnoahnbjdapieaaDoor
open Go.RowKit Go.Pm Go.Oc
set_option maxRecDepth 100000
set_option linter.unusedVariables false
set_option maxHeartbeats 4000000

theorem rPlace_c {a n k : Int} (hk0 : 0 ≤ k) (hk1 : k ≤ 2000) (hn : 1 ≤ n) (hn2 : n ≤ 2000) (ha : 0 ≤ a) (ha2 : a ≤ 80000) : PCalls Tryd.prog 53 [.int .i64 a, .int .i64 n, .int .i64 k] (.tup [.int .i64 (placeP a n k), .int .i64 (wrongP a n k)]) := by
  have m1 := mulB (a := k) (b := a) (A := 2000) (B := 80000) hk0 ha hk1 ha2
  have hif := place_if (a := a) (n := n) (k := k) (by omega)
  have h1 := Int.mul_ediv_add_emod (k * a) n
  have h2 := Int.emod_nonneg (k * a) (show n ≠ 0 by omega)
  have h3 := Int.emod_lt_of_pos (k * a) (show 0 < n by omega)
  have h4 : 0 ≤ k * a / n := Int.ediv_nonneg m1.1 (by omega)
  have h5 : k * a / n ≤ k * a := Int.ediv_le_self n m1.1
  have hwr : wrongP a n k = placeP a n k * n - k * a := rfl
  have hpl : placeP a n k = if 2 * (k * a % n) ≤ n then k * a / n else k * a / n + 1 := rfl
  have hqn : n * (k * a / n) = k * a / n * n := Int.mul_comm ..
  have hq1 : (k * a / n + 1) * n = k * a / n * n + n := by rw [Int.add_mul, Int.one_mul]
  have w1 : IntKind.i64.wrap (k * a) = k * a := wrap_in (by omega) (by omega)
  have cD : (-4000000000000000000 ≤ k * a ∧ k * a ≤ 4000000000000000000) ∧ 0 < n ∧ n ≤ 4000000000000000000 := by omega
  have hle : (2 * (k * a % n) ≤ n → k * a - k * a / n * n ≤ (k * a / n + 1) * n - k * a) := hif.2
  have hgt : (¬ 2 * (k * a % n) ≤ n → ¬ k * a - k * a / n * n ≤ (k * a / n + 1) * n - k * a) := fun h h' => h (hif.1 h')
  obtain ⟨q, hq⟩ : ∃ q, k * a / n = q := ⟨_, rfl⟩
  obtain ⟨y, hy⟩ : ∃ y, k * a = y := ⟨_, rfl⟩
  rw [hq] at hle hgt h1 h4 h5 hpl hqn hq1
  rw [hy] at hle hgt hpl h1 h2 h3 h5 hwr m1 w1 cD hq
  have w2 : IntKind.i64.wrap (q * n) = q * n := wrap_in (by omega) (by omega)
  have w3 : IntKind.i64.wrap (y - q * n) = y - q * n := wrap_in (by omega) (by omega)
  have w4 : IntKind.i64.wrap (q + 1) = q + 1 := wrap_in (by omega) (by omega)
  have w5 : IntKind.i64.wrap ((q + 1) * n) = (q + 1) * n := wrap_in (by omega) (by omega)
  have w6 : IntKind.i64.wrap ((q + 1) * n - y) = (q + 1) * n - y := wrap_in (by omega) (by omega)
  have w7 : IntKind.i64.wrap (0 - (y - q * n)) = q * n - y := by rw [wrap_in (by omega) (by omega)]; omega
  refine pcalls_by Tryd.mixes spG2_ok (fn := Tryd.f53) Tryd.func53 rfl (by kernel_rfl) (by show 3 ≤ _; decide) ?_
  by_cases hc : 2 * (y % n) ≤ n
  · have hle := hle hc
    rw [if_pos hc] at hpl
    rw [hpl] at hwr
    simp (decide := true) (maxSteps := 4000000) only [go_sem, Nat.reduceAdd, Nat.reduceSub, Nat.reduceMul, Nat.reduceDiv, Nat.reduceMod, Nat.reduceLT, Nat.reduceLeDiff, Nat.reduceEqDiff, Nat.reduceBEq, Nat.reduceBNe, Nat.reduceGT, Int.reduceAdd, Int.reduceSub, Int.reduceMul, Int.reduceNeg, Int.reduceLT, Int.reduceLE, Int.reduceEq, Int.reduceNe, Int.reduceBEq, Int.reduceBNe, Int.reduceToNat, Int.reduceGT, Int.reduceGE, ↓reduceIte, decide_true, decide_false, eq_self, Nat.mul_one, Nat.zero_mul, Nat.one_mul, Int.le_refl, Nat.le_refl, Int.cast_ofNat_Int, Tryd.f53, hy, w1, cD, hq, w2, w3, w4, w5, w6, w7, hle, hpl, hwr]
  · have hle := hgt hc
    rw [if_neg hc] at hpl
    rw [hpl] at hwr
    simp (decide := true) (maxSteps := 4000000) only [go_sem, Nat.reduceAdd, Nat.reduceSub, Nat.reduceMul, Nat.reduceDiv, Nat.reduceMod, Nat.reduceLT, Nat.reduceLeDiff, Nat.reduceEqDiff, Nat.reduceBEq, Nat.reduceBNe, Nat.reduceGT, Int.reduceAdd, Int.reduceSub, Int.reduceMul, Int.reduceNeg, Int.reduceLT, Int.reduceLE, Int.reduceEq, Int.reduceNe, Int.reduceBEq, Int.reduceBNe, Int.reduceToNat, Int.reduceGT, Int.reduceGE, ↓reduceIte, decide_true, decide_false, eq_self, Nat.mul_one, Nat.zero_mul, Nat.one_mul, Int.le_refl, Nat.le_refl, Int.cast_ofNat_Int, Tryd.f53, hy, w1, cD, hq, w2, w3, w4, w5, w6, w7, hle, hpl, hwr]
noncomputable def rxPlace : List TV → Option TV
  | [.int .i64 a, .int .i64 n, .int .i64 k] => if (0 ≤ k ∧ k ≤ 2000) ∧ (1 ≤ n ∧ n ≤ 2000) ∧ 0 ≤ a ∧ a ≤ 80000 then some (.tup [.int .i64 (placeP a n k), .int .i64 (wrongP a n k)]) else none
  | _ => none
theorem rxPlace_ok : ∀ xs r, rxPlace xs = some r → PCalls Tryd.prog 53 xs r := by
  intro xs r h
  unfold rxPlace at h
  split at h
  · split at h
    · rename_i hc; cases h; exact rPlace_c hc.1.1 hc.1.2 hc.2.1.1 hc.2.1.2 hc.2.2.1 hc.2.2.2
    · cases h
  · cases h
attribute [go_sem] rxPlace
noncomputable def spI1 : Pm.Spec := spG2.one 53 rxPlace
@[go_sem] theorem spI1_p (f : FuncId) (xs : List TV) : spI1.p f xs = Pm.Spec.p (spG2.one 53 rxPlace) f xs := rfl
@[go_sem] theorem spI1_h (f : FuncId) (ps : List PV) (hl : List PO) : spI1.h f ps hl = Pm.Spec.h (spG2.one 53 rxPlace) f ps hl := rfl
@[go_sem] theorem spI1_fz (f : FuncId) : spI1.fz f = Pm.Spec.fz (spG2.one 53 rxPlace) f := rfl
@[go_sem] theorem spI1_fr (f : FuncId) : spI1.fr f = Pm.Spec.fr (spG2.one 53 rxPlace) f := rfl
@[go_sem] theorem spI1_mu (t : TypeId) : spI1.mu t = Pm.Spec.mu (spG2.one 53 rxPlace) t := rfl
theorem spI1_ok : SpecOk Tryd.prog spI1 := Spec.one_ok rxPlace_ok spG2_ok
theorem rFault_c {a n : Int} (hn : 1 ≤ n) (hn2 : n ≤ 2000) (ha : 0 ≤ a) (ha2 : a ≤ 80000) : PCalls Tryd.prog 55 [.int .i64 a, .int .i64 n] (.int .i64 (faultP a n)) := by
  obtain ⟨N, hN⟩ := Int.eq_ofNat_of_zero_le (show 0 ≤ n by omega)
  subst hN
  have hfp : faultP a N = faultTo a N N := by unfold faultP; rw [Int.toNat_natCast]
  rw [hfp]
  have c2 : (1 ≤ (N : Int) ∧ (N : Int) ≤ 2000) := by omega
  refine pcalls_by Tryd.mixes spI1_ok (fn := Tryd.f55) Tryd.func55 rfl (by kernel_rfl) (by show 2 ≤ _; decide) ?_
  simp (decide := true) (maxSteps := 4000000) only [go_sem, Nat.reduceAdd, Nat.reduceSub, Nat.reduceMul, Nat.reduceDiv, Nat.reduceMod, Nat.reduceLT, Nat.reduceLeDiff, Nat.reduceEqDiff, Nat.reduceBEq, Nat.reduceBNe, Nat.reduceGT, Int.reduceAdd, Int.reduceSub, Int.reduceMul, Int.reduceNeg, Int.reduceLT, Int.reduceLE, Int.reduceEq, Int.reduceNe, Int.reduceBEq, Int.reduceBNe, Int.reduceToNat, Int.reduceGT, Int.reduceGE, ↓reduceIte, decide_true, decide_false, eq_self, Nat.mul_one, Nat.zero_mul, Nat.one_mul, Int.le_refl, Nat.le_refl, Int.cast_ofNat_Int, Tryd.f55]
  refine pwpC_loopU (A := { m : Nat // m ≤ N }) [0, 1, 4] (fun m => [(6, .t (.int .i64 m.1)), (5, .t (.int .i64 (faultTo a N m.1)))]) (fun _ => []) (fun m => N - m.1) ⟨0, by omega⟩ (by decide) (fun _ => by rfl) ?_ fun Q1 hQ1 ⟨m, hm⟩ I1 hI1 => ?_
  · simp (decide := true) (maxSteps := 4000000) only [go_sem, Nat.reduceAdd, Nat.reduceSub, Nat.reduceMul, Nat.reduceDiv, Nat.reduceMod, Nat.reduceLT, Nat.reduceLeDiff, Nat.reduceEqDiff, Nat.reduceBEq, Nat.reduceBNe, Nat.reduceGT, Int.reduceAdd, Int.reduceSub, Int.reduceMul, Int.reduceNeg, Int.reduceLT, Int.reduceLE, Int.reduceEq, Int.reduceNe, Int.reduceBEq, Int.reduceBNe, Int.reduceToNat, Int.reduceGT, Int.reduceGE, ↓reduceIte, decide_true, decide_false, eq_self, Nat.mul_one, Nat.zero_mul, Nat.one_mul, Int.le_refl, Nat.le_refl, Int.cast_ofNat_Int, faultTo, List.range_zero, List.foldl_nil]
  · by_cases hlt : (m : Int) < N
    · have hc1 : IntKind.i64.wrap (m + 1) = ((m + 1 : Nat) : Int) := by rw [wrap_in (by omega) (by omega)]; omega
      have c1 : (0 : Int) ≤ (m : Int) ∧ (m : Int) ≤ 2000 := by omega
      have c3 : 0 ≤ a ∧ a ≤ 80000 := ⟨ha, ha2⟩
      have hfu := faultTo_succ a N m
      have hwb := wrong_bound (all := a) (n := N) (k := m) (by omega)
      obtain ⟨w, hw⟩ : ∃ w, wrongP a N m = w := ⟨_, rfl⟩
      rw [hw] at hfu hwb
      have wn : IntKind.i64.wrap (0 - w) = -w := by rw [wrap_in (by omega) (by omega)]; omega
      have hmx : max (faultTo a N m) (max w (-w)) = faultTo a N (m + 1) := by rw [hfu]; rfl
      simp (decide := true) (maxSteps := 4000000) only [go_sem, Nat.reduceAdd, Nat.reduceSub, Nat.reduceMul, Nat.reduceDiv, Nat.reduceMod, Nat.reduceLT, Nat.reduceLeDiff, Nat.reduceEqDiff, Nat.reduceBEq, Nat.reduceBNe, Nat.reduceGT, Int.reduceAdd, Int.reduceSub, Int.reduceMul, Int.reduceNeg, Int.reduceLT, Int.reduceLE, Int.reduceEq, Int.reduceNe, Int.reduceBEq, Int.reduceBNe, Int.reduceToNat, Int.reduceGT, Int.reduceGE, ↓reduceIte, decide_true, decide_false, eq_self, Nat.mul_one, Nat.zero_mul, Nat.one_mul, Int.le_refl, Nat.le_refl, Int.cast_ofNat_Int, hlt, c1, c2, c3, hw, wn, hmx]
      refine hI1 _ ⟨m + 1, by omega⟩ (by simp only; omega) ?_
      simp (decide := true) (maxSteps := 4000000) only [go_sem, Nat.reduceAdd, Nat.reduceSub, Nat.reduceMul, Nat.reduceDiv, Nat.reduceMod, Nat.reduceLT, Nat.reduceLeDiff, Nat.reduceEqDiff, Nat.reduceBEq, Nat.reduceBNe, Nat.reduceGT, Int.reduceAdd, Int.reduceSub, Int.reduceMul, Int.reduceNeg, Int.reduceLT, Int.reduceLE, Int.reduceEq, Int.reduceNe, Int.reduceBEq, Int.reduceBNe, Int.reduceToNat, Int.reduceGT, Int.reduceGE, ↓reduceIte, decide_true, decide_false, eq_self, Nat.mul_one, Nat.zero_mul, Nat.one_mul, Int.le_refl, Nat.le_refl, Int.cast_ofNat_Int, hc1]
    · have hme : m = N := by omega
      subst hme
      simp (decide := true) (maxSteps := 4000000) only [go_sem, Nat.reduceAdd, Nat.reduceSub, Nat.reduceMul, Nat.reduceDiv, Nat.reduceMod, Nat.reduceLT, Nat.reduceLeDiff, Nat.reduceEqDiff, Nat.reduceBEq, Nat.reduceBNe, Nat.reduceGT, Int.reduceAdd, Int.reduceSub, Int.reduceMul, Int.reduceNeg, Int.reduceLT, Int.reduceLE, Int.reduceEq, Int.reduceNe, Int.reduceBEq, Int.reduceBNe, Int.reduceToNat, Int.reduceGT, Int.reduceGE, ↓reduceIte, decide_true, decide_false, eq_self, Nat.mul_one, Nat.zero_mul, Nat.one_mul, Int.le_refl, Nat.le_refl, Int.cast_ofNat_Int, hlt]
      refine hQ1 _ _ ?_
      simp (decide := true) (maxSteps := 4000000) only [go_sem, Nat.reduceAdd, Nat.reduceSub, Nat.reduceMul, Nat.reduceDiv, Nat.reduceMod, Nat.reduceLT, Nat.reduceLeDiff, Nat.reduceEqDiff, Nat.reduceBEq, Nat.reduceBNe, Nat.reduceGT, Int.reduceAdd, Int.reduceSub, Int.reduceMul, Int.reduceNeg, Int.reduceLT, Int.reduceLE, Int.reduceEq, Int.reduceNe, Int.reduceBEq, Int.reduceBNe, Int.reduceToNat, Int.reduceGT, Int.reduceGE, ↓reduceIte, decide_true, decide_false, eq_self, Nat.mul_one, Nat.zero_mul, Nat.one_mul, Int.le_refl, Nat.le_refl, Int.cast_ofNat_Int]
noncomputable def rxFault : List TV → Option TV
  | [.int .i64 a, .int .i64 n] => if (1 ≤ n ∧ n ≤ 2000) ∧ 0 ≤ a ∧ a ≤ 80000 then some (.int .i64 (faultP a n)) else none
  | _ => none
theorem rxFault_ok : ∀ xs r, rxFault xs = some r → PCalls Tryd.prog 55 xs r := by
  intro xs r h
  unfold rxFault at h
  split at h
  · split at h
    · rename_i hc; cases h; exact rFault_c hc.1.1 hc.1.2 hc.2.1 hc.2.2
    · cases h
  · cases h
attribute [go_sem] rxFault
theorem rEngr_c {F a n : Int} (hF : 0 ≤ F ∧ F ≤ 2000) (hn : 1 ≤ n ∧ n ≤ 2000) (ha : 1 ≤ a ∧ a ≤ 80000) : PCalls Tryd.prog 54 [.int .i64 F, .int .i64 a, .int .i64 n] (.int .i64 (engrP F (n * a))) := by
  have m1 := mulB (a := n) (b := a) (A := 2000) (B := 80000) (by omega) (by omega) (by omega) (by omega)
  have m2 := Int.mul_pos (show 0 < n by omega) (show 0 < a by omega)
  have w1 : IntKind.i64.wrap (F * 129600000) = F * 129600000 := wrap_in (by omega) (by omega)
  have w2 : IntKind.i64.wrap (n * a) = n * a := wrap_in (by omega) (by omega)
  have cU : (-4000000000000000000 ≤ F * 129600000 ∧ F * 129600000 ≤ 4000000000000000000) ∧ 0 < n * a ∧ n * a ≤ 4000000000000000000 := by omega
  have he := engr_up (f := F) m2
  refine pcalls_by Tryd.mixes spI1_ok (fn := Tryd.f54) Tryd.func54 rfl (by kernel_rfl) (by show 3 ≤ _; decide) ?_
  simp (decide := true) (maxSteps := 4000000) only [go_sem, Nat.reduceAdd, Nat.reduceSub, Nat.reduceMul, Nat.reduceDiv, Nat.reduceMod, Nat.reduceLT, Nat.reduceLeDiff, Nat.reduceEqDiff, Nat.reduceBEq, Nat.reduceBNe, Nat.reduceGT, Int.reduceAdd, Int.reduceSub, Int.reduceMul, Int.reduceNeg, Int.reduceLT, Int.reduceLE, Int.reduceEq, Int.reduceNe, Int.reduceBEq, Int.reduceBNe, Int.reduceToNat, Int.reduceGT, Int.reduceGE, ↓reduceIte, decide_true, decide_false, eq_self, Nat.mul_one, Nat.zero_mul, Nat.one_mul, Int.le_refl, Nat.le_refl, Int.cast_ofNat_Int, Tryd.f54, w1, w2, cU, he]
noncomputable def rxEngr : List TV → Option TV
  | [.int .i64 F, .int .i64 a, .int .i64 n] => if (0 ≤ F ∧ F ≤ 2000) ∧ (1 ≤ n ∧ n ≤ 2000) ∧ 1 ≤ a ∧ a ≤ 80000 then some (.int .i64 (engrP F (n * a))) else none
  | _ => none
theorem rxEngr_ok : ∀ xs r, rxEngr xs = some r → PCalls Tryd.prog 54 xs r := by
  intro xs r h
  unfold rxEngr at h
  split at h
  · split at h
    · rename_i hc; cases h; exact rEngr_c hc.1 hc.2.1 hc.2.2
    · cases h
  · cases h
attribute [go_sem] rxEngr
noncomputable def spI2 : Pm.Spec := (spI1.one 55 rxFault).one 54 rxEngr
@[go_sem] theorem spI2_p (f : FuncId) (xs : List TV) : spI2.p f xs = Pm.Spec.p ((spI1.one 55 rxFault).one 54 rxEngr) f xs := rfl
@[go_sem] theorem spI2_h (f : FuncId) (ps : List PV) (hl : List PO) : spI2.h f ps hl = Pm.Spec.h ((spI1.one 55 rxFault).one 54 rxEngr) f ps hl := rfl
@[go_sem] theorem spI2_fz (f : FuncId) : spI2.fz f = Pm.Spec.fz ((spI1.one 55 rxFault).one 54 rxEngr) f := rfl
@[go_sem] theorem spI2_fr (f : FuncId) : spI2.fr f = Pm.Spec.fr ((spI1.one 55 rxFault).one 54 rxEngr) f := rfl
@[go_sem] theorem spI2_mu (t : TypeId) : spI2.mu t = Pm.Spec.mu ((spI1.one 55 rxFault).one 54 rxEngr) t := rfl
theorem spI2_ok : SpecOk Tryd.prog spI2 := Spec.one_ok rxEngr_ok (Spec.one_ok rxFault_ok spI1_ok)
theorem rCut_c (t : Int) {l : List Int} {s : TV} (hl : IsRow ic s l) (hll : l.length ≤ 17592186044415) (c n : Int) : PCalls Tryd.prog 23 [.agg [.int .i64 t, s], .int .i64 c, .int .i64 n] (.tup [rowG ic (cutE t l c n).1, .int .i64 (cutE t l c n).2.1, .int .i64 (cutE t l c n).2.2]) := by
  have rI := rowI_is hl
  unfold rowL at rI
  have e0 : rowG ic [] = .nilSl := rfl
  refine pcalls_by Tryd.mixes spI2_ok (fn := Tryd.f23) Tryd.func23 rfl (by kernel_rfl) (by show 3 ≤ _; decide) ?_
  unfold cutE
  cases h1 : headOk t l with
  | false => simp (decide := true) (maxSteps := 4000000) only [go_sem, Nat.reduceAdd, Nat.reduceSub, Nat.reduceMul, Nat.reduceDiv, Nat.reduceMod, Nat.reduceLT, Nat.reduceLeDiff, Nat.reduceEqDiff, Nat.reduceBEq, Nat.reduceBNe, Nat.reduceGT, Int.reduceAdd, Int.reduceSub, Int.reduceMul, Int.reduceNeg, Int.reduceLT, Int.reduceLE, Int.reduceEq, Int.reduceNe, Int.reduceBEq, Int.reduceBNe, Int.reduceToNat, Int.reduceGT, Int.reduceGE, ↓reduceIte, decide_true, decide_false, eq_self, Nat.mul_one, Nat.zero_mul, Nat.one_mul, Int.le_refl, Nat.le_refl, Int.cast_ofNat_Int, Tryd.f23, rI, hll, h1, e0]
  | true =>
    cases h2 : inB n 1 2000 with
    | false => simp (decide := true) (maxSteps := 4000000) only [go_sem, Nat.reduceAdd, Nat.reduceSub, Nat.reduceMul, Nat.reduceDiv, Nat.reduceMod, Nat.reduceLT, Nat.reduceLeDiff, Nat.reduceEqDiff, Nat.reduceBEq, Nat.reduceBNe, Nat.reduceGT, Int.reduceAdd, Int.reduceSub, Int.reduceMul, Int.reduceNeg, Int.reduceLT, Int.reduceLE, Int.reduceEq, Int.reduceNe, Int.reduceBEq, Int.reduceBNe, Int.reduceToNat, Int.reduceGT, Int.reduceGE, ↓reduceIte, decide_true, decide_false, eq_self, Nat.mul_one, Nat.zero_mul, Nat.one_mul, Int.le_refl, Nat.le_refl, Int.cast_ofNat_Int, Tryd.f23, rI, hll, h1, h2, e0]
    | true =>
      have hh := headOk_iff.1 h1
      have hn := inB_iff.1 h2
      obtain ⟨f, rfl⟩ := hl.ne (by omega)
      rw [ic_ints] at rI ⊢
      simp only [unI_eq, if_true] at rI
      have wl : IntKind.i64.wrap ((l.length : Int) - 1) = (l.length : Int) - 1 := wrap_in (by omega) (by omega)
      cases h3 : inB c 0 ((l.length : Int) - 1) with
      | false => simp (decide := true) (maxSteps := 4000000) only [go_sem, Nat.reduceAdd, Nat.reduceSub, Nat.reduceMul, Nat.reduceDiv, Nat.reduceMod, Nat.reduceLT, Nat.reduceLeDiff, Nat.reduceEqDiff, Nat.reduceBEq, Nat.reduceBNe, Nat.reduceGT, Int.reduceAdd, Int.reduceSub, Int.reduceMul, Int.reduceNeg, Int.reduceLT, Int.reduceLE, Int.reduceEq, Int.reduceNe, Int.reduceBEq, Int.reduceBNe, Int.reduceToNat, Int.reduceGT, Int.reduceGE, ↓reduceIte, decide_true, decide_false, eq_self, Nat.mul_one, Nat.zero_mul, Nat.one_mul, Int.le_refl, Nat.le_refl, Int.cast_ofNat_Int, Tryd.f23, rI, hll, h1, h2, wl, h3, e0]
      | true =>
        have hc := inB_iff.1 h3
        obtain ⟨C, hC⟩ := Int.eq_ofNat_of_zero_le (show 0 ≤ c by omega)
        subst hC
        have hlc : (C : Int) < l.length := by omega
        obtain ⟨h, hx⟩ := get_lt hlc
        have hd := ints_at hx
        rw [Nat.mul_one] at hd
        have hb := allB0 h1 hx
        have hnh := nthI_at hx
        rw [hnh]
        have w1 : IntKind.i64.wrap (t * h) = t * h := wrap_in (by omega) (by omega)
        obtain ⟨A, hA⟩ : ∃ A, t * h = A := ⟨_, rfl⟩
        rw [hA] at w1 hb ⊢
        obtain ⟨N, hN⟩ := Int.eq_ofNat_of_zero_le (show 0 ≤ n by omega)
        subst hN
        have c2 : (1 ≤ (N : Int) ∧ (N : Int) ≤ 2000) := by omega
        have c3 : 0 ≤ A ∧ A ≤ 80000 := by omega
        have hf := faultTo_bound (all := A) (n := N) (by omega) N
        have hf2 : 0 ≤ faultP A N ∧ faultP A N ≤ 2000 := by unfold faultP; rw [Int.toNat_natCast]; omega
        have er : rowG ic ((List.range N).map fun k : Nat => placeP A N k) = .sl (ints (placesTo A N N)) N false := by
          unfold rowG
          rw [ic_ints, if_neg (by simp; omega)]
          simp [placesTo]
        simp (decide := true) (maxSteps := 4000000) only [go_sem, Nat.reduceAdd, Nat.reduceSub, Nat.reduceMul, Nat.reduceDiv, Nat.reduceMod, Nat.reduceLT, Nat.reduceLeDiff, Nat.reduceEqDiff, Nat.reduceBEq, Nat.reduceBNe, Nat.reduceGT, Int.reduceAdd, Int.reduceSub, Int.reduceMul, Int.reduceNeg, Int.reduceLT, Int.reduceLE, Int.reduceEq, Int.reduceNe, Int.reduceBEq, Int.reduceBNe, Int.reduceToNat, Int.reduceGT, Int.reduceGE, ↓reduceIte, decide_true, decide_false, eq_self, Nat.mul_one, Nat.zero_mul, Nat.one_mul, Int.le_refl, Nat.le_refl, Int.cast_ofNat_Int, Tryd.f23, rI, hll, h1, h2, wl, h3, hlc, hd, hA, w1]
        refine pwpC_loopU (A := { m : Nat // m ≤ N }) [1, 2, 3, 6, 7, 8, 9, 10] (fun m => [(12, .t (.int .i64 m.1)), (11, .own (ints (placesTo A N m.1)) m.1 1)]) (fun m => [(1, .tok m.1 3)]) (fun m => N - m.1) ⟨0, by omega⟩ (by decide) (fun _ => by rfl) ?_ fun Q1 hQ1 ⟨m, hm⟩ I1 hI1 => ?_
        · simp (decide := true) (maxSteps := 4000000) only [go_sem, Nat.reduceAdd, Nat.reduceSub, Nat.reduceMul, Nat.reduceDiv, Nat.reduceMod, Nat.reduceLT, Nat.reduceLeDiff, Nat.reduceEqDiff, Nat.reduceBEq, Nat.reduceBNe, Nat.reduceGT, Int.reduceAdd, Int.reduceSub, Int.reduceMul, Int.reduceNeg, Int.reduceLT, Int.reduceLE, Int.reduceEq, Int.reduceNe, Int.reduceBEq, Int.reduceBNe, Int.reduceToNat, Int.reduceGT, Int.reduceGE, ↓reduceIte, decide_true, decide_false, eq_self, Nat.mul_one, Nat.zero_mul, Nat.one_mul, Int.le_refl, Nat.le_refl, Int.cast_ofNat_Int, placesTo, List.range_zero, List.map_nil, ints]
          first | done | exact ⟨⟨rfl, rfl⟩, rfl⟩ | exact ⟨rfl, rfl⟩ | rfl
        · by_cases hlt : (m : Int) < N
          · have hc1 : IntKind.i64.wrap (m + 1) = ((m + 1 : Nat) : Int) := by rw [wrap_in (by omega) (by omega)]; omega
            have c1 : (0 : Int) ≤ (m : Int) ∧ (m : Int) ≤ 2000 := by omega
            have hil : (ints (placesTo A N m)).length = m := by rw [ints_len, placesTo_len]
            have hroom : (m + 1) * 8 ≤ 140737488355328 := by omega
            have hps : ints (placesTo A N (m + 1)) = ints (placesTo A N m) ++ [.int .i64 (placeP A N m)] := by rw [placesTo_succ, ints_snoc]
            simp (decide := true) (maxSteps := 4000000) only [go_sem, Nat.reduceAdd, Nat.reduceSub, Nat.reduceMul, Nat.reduceDiv, Nat.reduceMod, Nat.reduceLT, Nat.reduceLeDiff, Nat.reduceEqDiff, Nat.reduceBEq, Nat.reduceBNe, Nat.reduceGT, Int.reduceAdd, Int.reduceSub, Int.reduceMul, Int.reduceNeg, Int.reduceLT, Int.reduceLE, Int.reduceEq, Int.reduceNe, Int.reduceBEq, Int.reduceBNe, Int.reduceToNat, Int.reduceGT, Int.reduceGE, ↓reduceIte, decide_true, decide_false, eq_self, Nat.mul_one, Nat.zero_mul, Nat.one_mul, Int.le_refl, Nat.le_refl, Int.cast_ofNat_Int, hlt, c1, c2, c3, hil, hroom]
            refine hI1 _ ⟨m + 1, by omega⟩ (by simp only; omega) ?_
            simp (decide := true) (maxSteps := 4000000) only [go_sem, Nat.reduceAdd, Nat.reduceSub, Nat.reduceMul, Nat.reduceDiv, Nat.reduceMod, Nat.reduceLT, Nat.reduceLeDiff, Nat.reduceEqDiff, Nat.reduceBEq, Nat.reduceBNe, Nat.reduceGT, Int.reduceAdd, Int.reduceSub, Int.reduceMul, Int.reduceNeg, Int.reduceLT, Int.reduceLE, Int.reduceEq, Int.reduceNe, Int.reduceBEq, Int.reduceBNe, Int.reduceToNat, Int.reduceGT, Int.reduceGE, ↓reduceIte, decide_true, decide_false, eq_self, Nat.mul_one, Nat.zero_mul, Nat.one_mul, Int.le_refl, Nat.le_refl, Int.cast_ofNat_Int, hc1, hps]
          · have hme : m = N := by omega
            subst hme
            have hm0 : ¬ m = 0 := by omega
            simp (decide := true) (maxSteps := 4000000) only [go_sem, Nat.reduceAdd, Nat.reduceSub, Nat.reduceMul, Nat.reduceDiv, Nat.reduceMod, Nat.reduceLT, Nat.reduceLeDiff, Nat.reduceEqDiff, Nat.reduceBEq, Nat.reduceBNe, Nat.reduceGT, Int.reduceAdd, Int.reduceSub, Int.reduceMul, Int.reduceNeg, Int.reduceLT, Int.reduceLE, Int.reduceEq, Int.reduceNe, Int.reduceBEq, Int.reduceBNe, Int.reduceToNat, Int.reduceGT, Int.reduceGE, ↓reduceIte, decide_true, decide_false, eq_self, Nat.mul_one, Nat.zero_mul, Nat.one_mul, Int.le_refl, Nat.le_refl, Int.cast_ofNat_Int, hlt]
            refine hQ1 _ _ ?_
            simp (decide := true) (maxSteps := 4000000) only [go_sem, Nat.reduceAdd, Nat.reduceSub, Nat.reduceMul, Nat.reduceDiv, Nat.reduceMod, Nat.reduceLT, Nat.reduceLeDiff, Nat.reduceEqDiff, Nat.reduceBEq, Nat.reduceBNe, Nat.reduceGT, Int.reduceAdd, Int.reduceSub, Int.reduceMul, Int.reduceNeg, Int.reduceLT, Int.reduceLE, Int.reduceEq, Int.reduceNe, Int.reduceBEq, Int.reduceBNe, Int.reduceToNat, Int.reduceGT, Int.reduceGE, ↓reduceIte, decide_true, decide_false, eq_self, Nat.mul_one, Nat.zero_mul, Nat.one_mul, Int.le_refl, Nat.le_refl, Int.cast_ofNat_Int, c2, c3, hf2, hb, hm0, er]
theorem rBest_c (t : Int) {l : List Int} {s : TV} (hl : IsRow ic s l) (hll : l.length ≤ 17592186044415) (n : Int) : PCalls Tryd.prog 26 [.agg [.int .i64 t, s], .int .i64 n] (.tup [.int .i64 (bestE t l n).1, .int .i64 (bestE t l n).2.1, .int .i64 (bestE t l n).2.2]) := by
  have rI := rowI_is hl
  unfold rowL at rI
  refine pcalls_by Tryd.mixes spI2_ok (fn := Tryd.f26) Tryd.func26 rfl (by kernel_rfl) (by show 2 ≤ _; decide) ?_
  unfold bestE
  cases h1 : headOk t l with
  | false => simp (decide := true) (maxSteps := 4000000) only [go_sem, Nat.reduceAdd, Nat.reduceSub, Nat.reduceMul, Nat.reduceDiv, Nat.reduceMod, Nat.reduceLT, Nat.reduceLeDiff, Nat.reduceEqDiff, Nat.reduceBEq, Nat.reduceBNe, Nat.reduceGT, Int.reduceAdd, Int.reduceSub, Int.reduceMul, Int.reduceNeg, Int.reduceLT, Int.reduceLE, Int.reduceEq, Int.reduceNe, Int.reduceBEq, Int.reduceBNe, Int.reduceToNat, Int.reduceGT, Int.reduceGE, ↓reduceIte, decide_true, decide_false, eq_self, Nat.mul_one, Nat.zero_mul, Nat.one_mul, Int.le_refl, Nat.le_refl, Int.cast_ofNat_Int, Tryd.f26, rI, hll, h1]
  | true =>
    cases h2 : inB n 1 2000 with
    | false => simp (decide := true) (maxSteps := 4000000) only [go_sem, Nat.reduceAdd, Nat.reduceSub, Nat.reduceMul, Nat.reduceDiv, Nat.reduceMod, Nat.reduceLT, Nat.reduceLeDiff, Nat.reduceEqDiff, Nat.reduceBEq, Nat.reduceBNe, Nat.reduceGT, Int.reduceAdd, Int.reduceSub, Int.reduceMul, Int.reduceNeg, Int.reduceLT, Int.reduceLE, Int.reduceEq, Int.reduceNe, Int.reduceBEq, Int.reduceBNe, Int.reduceToNat, Int.reduceGT, Int.reduceGE, ↓reduceIte, decide_true, decide_false, eq_self, Nat.mul_one, Nat.zero_mul, Nat.one_mul, Int.le_refl, Nat.le_refl, Int.cast_ofNat_Int, Tryd.f26, rI, hll, h1, h2]
    | true =>
      have hh := headOk_iff.1 h1
      have hn := inB_iff.1 h2
      obtain ⟨f, rfl⟩ := hl.ne (by omega)
      rw [ic_ints] at rI ⊢
      simp only [unI_eq, if_true] at rI
      have hl0 : (0 : Int) < l.length := by omega
      obtain ⟨h0, hx0⟩ := get_lt (k := 0) (by omega : ((0 : Nat) : Int) < l.length)
      have hd0 := ints_at hx0
      rw [Nat.mul_one] at hd0
      have hb0 := allB0 h1 hx0
      have hn0 : nthI l 0 = h0 := nthI_at hx0
      have w0 : IntKind.i64.wrap (t * h0) = t * h0 := wrap_in (by omega) (by omega)
      have hb0' : 0 ≤ t * h0 ∧ t * h0 ≤ 80000 := by omega
      simp (decide := true) (maxSteps := 4000000) only [go_sem, Nat.reduceAdd, Nat.reduceSub, Nat.reduceMul, Nat.reduceDiv, Nat.reduceMod, Nat.reduceLT, Nat.reduceLeDiff, Nat.reduceEqDiff, Nat.reduceBEq, Nat.reduceBNe, Nat.reduceGT, Int.reduceAdd, Int.reduceSub, Int.reduceMul, Int.reduceNeg, Int.reduceLT, Int.reduceLE, Int.reduceEq, Int.reduceNe, Int.reduceBEq, Int.reduceBNe, Int.reduceToNat, Int.reduceGT, Int.reduceGE, ↓reduceIte, decide_true, decide_false, eq_self, Nat.mul_one, Nat.zero_mul, Nat.one_mul, Int.le_refl, Nat.le_refl, Int.cast_ofNat_Int, Tryd.f26, rI, hll, h1, h2, hl0, hd0, w0, hn, hb0']
      refine pwpC_loopU (A := { k : Nat // k + 1 ≤ l.length }) [1, 2, 4, 5, 6, 7] (fun k => [(10, .t (.int .i64 ((k.1 + 1 : Nat) : Int))), (8, .t (.int .i64 (bestK t l n k.1).1)), (9, .t (.int .i64 (bestK t l n k.1).2))]) (fun _ => []) (fun k => l.length - k.1) ⟨0, by omega⟩ (by decide) (fun _ => by rfl) ?_ fun Q1 hQ1 ⟨k, hk⟩ I1 hI1 => ?_
      · simp (decide := true) (maxSteps := 4000000) only [go_sem, Nat.reduceAdd, Nat.reduceSub, Nat.reduceMul, Nat.reduceDiv, Nat.reduceMod, Nat.reduceLT, Nat.reduceLeDiff, Nat.reduceEqDiff, Nat.reduceBEq, Nat.reduceBNe, Nat.reduceGT, Int.reduceAdd, Int.reduceSub, Int.reduceMul, Int.reduceNeg, Int.reduceLT, Int.reduceLE, Int.reduceEq, Int.reduceNe, Int.reduceBEq, Int.reduceBNe, Int.reduceToNat, Int.reduceGT, Int.reduceGE, ↓reduceIte, decide_true, decide_false, eq_self, Nat.mul_one, Nat.zero_mul, Nat.one_mul, Int.le_refl, Nat.le_refl, Int.cast_ofNat_Int, bestK, hn0]
        first | done | rfl
      · obtain ⟨b1, b2, b3⟩ := bestK_spec t l n k
        obtain ⟨j, hj⟩ := Int.eq_ofNat_of_zero_le b1
        have hlj : (j : Int) < l.length := by omega
        obtain ⟨y, hy⟩ := get_lt hlj
        have hdy := ints_at hy
        rw [Nat.mul_one] at hdy
        have hby := allB0 h1 hy
        have hBy := head_at h1 hy
        have hny := nthI_at hy
        have hfy := faultTo_bound (all := t * y) (n := n) (by omega) n.toNat
        obtain ⟨B, hB⟩ : ∃ B, bestK t l n k = B := ⟨_, rfl⟩
        have hKs : bestK t l n (k + 1) = if faultP (t * nthI l ((k + 1 : Nat) : Int)) n * nthI l (bestK t l n k).1 < (bestK t l n k).2 * nthI l ((k + 1 : Nat) : Int) then (((k + 1 : Nat) : Int), faultP (t * nthI l ((k + 1 : Nat) : Int)) n) else bestK t l n k := rfl
        rw [hj, hny] at hKs b3
        rw [hB] at hj b3 hKs ⊢
        obtain ⟨B1, B2⟩ := B
        simp only at hj b3 hKs
        subst hj
        have hfB : 0 ≤ B2 ∧ B2 ≤ 2000 := by rw [b3]; unfold faultP; omega
        by_cases hlt : ((k + 1 : Nat) : Int) < l.length
        · obtain ⟨h, hx⟩ := get_lt hlt
          have hd := ints_at hx
          rw [Nat.mul_one] at hd
          have hb := allB0 h1 hx
          have hBh := head_at h1 hx
          have hnh := nthI_at hx
          rw [hnh] at hKs
          have hc1 : IntKind.i64.wrap (((k + 1 : Nat) : Int) + 1) = ((k + 1 + 1 : Nat) : Int) := by rw [wrap_in (by omega) (by omega)]; omega
          have w1 : IntKind.i64.wrap (t * h) = t * h := wrap_in (by omega) (by omega)
          have hb' : 0 ≤ t * h ∧ t * h ≤ 80000 := by omega
          have hf := faultTo_bound (all := t * h) (n := n) (by omega) n.toNat
          have hf2 : 0 ≤ faultP (t * h) n ∧ faultP (t * h) n ≤ 2000 := by unfold faultP; omega
          obtain ⟨F, hF⟩ : ∃ F, faultP (t * h) n = F := ⟨_, rfl⟩
          rw [hF] at hf2 hKs
          have m1 := mulB (a := F) (b := y) (A := 2000) (B := 200) (by omega) (by omega) (by omega) (by omega)
          have m2 := mulB (a := B2) (b := h) (A := 2000) (B := 200) (by omega) (by omega) (by omega) (by omega)
          have w2 : IntKind.i64.wrap (F * y) = F * y := wrap_in (by omega) (by omega)
          have w3 : IntKind.i64.wrap (B2 * h) = B2 * h := wrap_in (by omega) (by omega)
          by_cases hc : F * y < B2 * h
          · rw [if_pos hc] at hKs
            simp (decide := true) (maxSteps := 4000000) only [go_sem, Nat.reduceAdd, Nat.reduceSub, Nat.reduceMul, Nat.reduceDiv, Nat.reduceMod, Nat.reduceLT, Nat.reduceLeDiff, Nat.reduceEqDiff, Nat.reduceBEq, Nat.reduceBNe, Nat.reduceGT, Int.reduceAdd, Int.reduceSub, Int.reduceMul, Int.reduceNeg, Int.reduceLT, Int.reduceLE, Int.reduceEq, Int.reduceNe, Int.reduceBEq, Int.reduceBNe, Int.reduceToNat, Int.reduceGT, Int.reduceGE, ↓reduceIte, decide_true, decide_false, eq_self, Nat.mul_one, Nat.zero_mul, Nat.one_mul, Int.le_refl, Nat.le_refl, Int.cast_ofNat_Int, hlt, hd, w1, hn, hb', hF, hlj, hdy, w2, w3, hc]
            refine hI1 _ ⟨k + 1, by omega⟩ (by simp only; omega) ?_
            simp (decide := true) (maxSteps := 4000000) only [go_sem, Nat.reduceAdd, Nat.reduceSub, Nat.reduceMul, Nat.reduceDiv, Nat.reduceMod, Nat.reduceLT, Nat.reduceLeDiff, Nat.reduceEqDiff, Nat.reduceBEq, Nat.reduceBNe, Nat.reduceGT, Int.reduceAdd, Int.reduceSub, Int.reduceMul, Int.reduceNeg, Int.reduceLT, Int.reduceLE, Int.reduceEq, Int.reduceNe, Int.reduceBEq, Int.reduceBNe, Int.reduceToNat, Int.reduceGT, Int.reduceGE, ↓reduceIte, decide_true, decide_false, eq_self, Nat.mul_one, Nat.zero_mul, Nat.one_mul, Int.le_refl, Nat.le_refl, Int.cast_ofNat_Int, hc1, hKs]
          · rw [if_neg hc] at hKs
            simp (decide := true) (maxSteps := 4000000) only [go_sem, Nat.reduceAdd, Nat.reduceSub, Nat.reduceMul, Nat.reduceDiv, Nat.reduceMod, Nat.reduceLT, Nat.reduceLeDiff, Nat.reduceEqDiff, Nat.reduceBEq, Nat.reduceBNe, Nat.reduceGT, Int.reduceAdd, Int.reduceSub, Int.reduceMul, Int.reduceNeg, Int.reduceLT, Int.reduceLE, Int.reduceEq, Int.reduceNe, Int.reduceBEq, Int.reduceBNe, Int.reduceToNat, Int.reduceGT, Int.reduceGE, ↓reduceIte, decide_true, decide_false, eq_self, Nat.mul_one, Nat.zero_mul, Nat.one_mul, Int.le_refl, Nat.le_refl, Int.cast_ofNat_Int, hlt, hd, w1, hn, hb', hF, hlj, hdy, w2, w3, hc]
            refine hI1 _ ⟨k + 1, by omega⟩ (by simp only; omega) ?_
            simp (decide := true) (maxSteps := 4000000) only [go_sem, Nat.reduceAdd, Nat.reduceSub, Nat.reduceMul, Nat.reduceDiv, Nat.reduceMod, Nat.reduceLT, Nat.reduceLeDiff, Nat.reduceEqDiff, Nat.reduceBEq, Nat.reduceBNe, Nat.reduceGT, Int.reduceAdd, Int.reduceSub, Int.reduceMul, Int.reduceNeg, Int.reduceLT, Int.reduceLE, Int.reduceEq, Int.reduceNe, Int.reduceBEq, Int.reduceBNe, Int.reduceToNat, Int.reduceGT, Int.reduceGE, ↓reduceIte, decide_true, decide_false, eq_self, Nat.mul_one, Nat.zero_mul, Nat.one_mul, Int.le_refl, Nat.le_refl, Int.cast_ofNat_Int, hc1, hKs]
        · have hke : l.length - 1 = k := by omega
          have w1 : IntKind.i64.wrap (t * y) = t * y := wrap_in (by omega) (by omega)
          simp (decide := true) (maxSteps := 4000000) only [go_sem, Nat.reduceAdd, Nat.reduceSub, Nat.reduceMul, Nat.reduceDiv, Nat.reduceMod, Nat.reduceLT, Nat.reduceLeDiff, Nat.reduceEqDiff, Nat.reduceBEq, Nat.reduceBNe, Nat.reduceGT, Int.reduceAdd, Int.reduceSub, Int.reduceMul, Int.reduceNeg, Int.reduceLT, Int.reduceLE, Int.reduceEq, Int.reduceNe, Int.reduceBEq, Int.reduceBNe, Int.reduceToNat, Int.reduceGT, Int.reduceGE, ↓reduceIte, decide_true, decide_false, eq_self, Nat.mul_one, Nat.zero_mul, Nat.one_mul, Int.le_refl, Nat.le_refl, Int.cast_ofNat_Int, hlt]
          refine hQ1 _ _ ?_
          simp (decide := true) (maxSteps := 4000000) only [go_sem, Nat.reduceAdd, Nat.reduceSub, Nat.reduceMul, Nat.reduceDiv, Nat.reduceMod, Nat.reduceLT, Nat.reduceLeDiff, Nat.reduceEqDiff, Nat.reduceBEq, Nat.reduceBNe, Nat.reduceGT, Int.reduceAdd, Int.reduceSub, Int.reduceMul, Int.reduceNeg, Int.reduceLT, Int.reduceLE, Int.reduceEq, Int.reduceNe, Int.reduceBEq, Int.reduceBNe, Int.reduceToNat, Int.reduceGT, Int.reduceGE, ↓reduceIte, decide_true, decide_false, eq_self, Nat.mul_one, Nat.zero_mul, Nat.one_mul, Int.le_refl, Nat.le_refl, Int.cast_ofNat_Int, hlj, hdy, w1, hfB, hn, hby, hke, hB, hny]
end Go.Proofs.YtnoahnbjdapieaaDoor

/- Part Ij. -/
namespace Go.Oc
open Go Go.Pm
set_option maxRecDepth 100000
theorem fsTo_next {α : Type} {f : Nat → Option α} {k : Nat} (h0 : fsTo f k = none) (h1 : f k = none) : fsTo f (k + 1) = none := by rw [fsTo_succ, h0]; exact h1
theorem diff2_fs (t : Int) (l st : List Int) (n a : Int) : diff2 t l st n a = fsTo (fun s : Nat => diff1 t l st n a (n - a + 2 * (s : Int) * a)) 2 := by
  have e0 : n - a + 2 * ((0 : Nat) : Int) * a = n - a := by simp
  have e1 : n - a + 2 * ((1 : Nat) : Int) * a = n + a := by rw [show 2 * ((1 : Nat) : Int) = 2 from rfl]; omega
  have z : fsTo (fun s : Nat => diff1 t l st n a (n - a + 2 * (s : Int) * a)) 0 = none := rfl
  rw [fsTo_succ, fsTo_succ, z]
  simp only []
  rw [e0, e1]
  unfold diff2
  cases diff1 t l st n a (n - a) <;> rfl
def stkTo (st : List Int) (k : Nat) : Bool := inB st.length 2 10 && (st.take k).all fun n => inB n 10 200
theorem stkTo_succ {st : List Int} {k : Nat} {x : Int} (h : st[k]? = some x) (hk : stkTo st k = true) : stkTo st (k + 1) = inB x 10 200 := by
  unfold stkTo at hk ⊢
  simp only [Bool.and_eq_true] at hk
  rw [take_snoc h, List.all_append, hk.1, hk.2]
  simp
theorem stkTo_all (st : List Int) : stkTo st st.length = stockOk1 st := by unfold stkTo stockOk1; rw [List.take_length]
theorem stkTo_false {st : List Int} {k : Nat} (h : stkTo st k = false) : stockOk1 st = false := by
  rw [Bool.eq_false_iff] at h ⊢
  intro hh
  apply h
  have := stockOk1_iff.1 hh
  unfold stkTo
  simp only [Bool.and_eq_true, inB_iff, List.all_eq_true]
  exact ⟨by omega, fun x hx => this.2 x (List.mem_of_mem_take hx)⟩
theorem r2_some {st : List Int} {p q : Int} {a b : Nat} {x y : Int} (hx : nthI st a = x) (hy : nthI st b = y) (h : ¬ a = b) (he : x * q = y * p) : r2 st p q a b = some ⟨a, b, -1, -1⟩ := by unfold r2; rw [hx, hy, if_pos ⟨h, he⟩]
theorem r2_none {st : List Int} {p q : Int} {a b : Nat} {x y : Int} (hx : nthI st a = x) (hy : nthI st b = y) (h : ¬ (¬ a = b ∧ x * q = y * p)) : r2 st p q a b = none := by unfold r2; rw [hx, hy, if_neg h]
theorem r4_some {st : List Int} {p q : Int} {a b c d : Nat} {x y z w : Int} (hx : nthI st a = x) (hy : nthI st b = y) (hz : nthI st c = z) (hw : nthI st d = w) (h : ¬ a = b ∧ ¬ a = c ∧ ¬ a = d ∧ ¬ b = c ∧ ¬ b = d ∧ ¬ c = d) (he : x * z * q = y * w * p) : r4 st p q a b c d = some ⟨a, b, c, d⟩ := by unfold r4; rw [hx, hy, hz, hw, if_pos ⟨h, he⟩]
theorem r4_none {st : List Int} {p q : Int} {a b c d : Nat} {x y z w : Int} (hx : nthI st a = x) (hy : nthI st b = y) (hz : nthI st c = z) (hw : nthI st d = w) (h : ¬ ((¬ a = b ∧ ¬ a = c ∧ ¬ a = d ∧ ¬ b = c ∧ ¬ b = d ∧ ¬ c = d) ∧ x * z * q = y * w * p)) : r4 st p q a b c d = none := by unfold r4; rw [hx, hy, hz, hw, if_neg h]
theorem prodB {x q : Int} (hx : 0 ≤ x ∧ x ≤ 200) (hq : 0 ≤ q ∧ q ≤ 100000) : IntKind.i64.wrap (x * q) = x * q := by
  have m := mulB (a := x) (b := q) (A := 200) (B := 100000) hx.1 hq.1 hx.2 hq.2
  exact wrap_in (by omega) (by omega)
theorem prodB2 {x z q : Int} (hx : 0 ≤ x ∧ x ≤ 200) (hz : 0 ≤ z ∧ z ≤ 200) (hq : 0 ≤ q ∧ q ≤ 100000) : IntKind.i64.wrap (x * z) = x * z ∧ IntKind.i64.wrap (x * z * q) = x * z * q := by
  have m := mulB (a := x) (b := z) (A := 200) (B := 200) hx.1 hz.1 hx.2 hz.2
  have m2 := mulB (a := x * z) (b := q) (A := 40000) (B := 100000) m.1 hq.1 (by omega) hq.2
  exact ⟨wrap_in (by omega) (by omega), wrap_in (by omega) (by omega)⟩
def tn0 : Tn := ⟨0, 0, 0, 0⟩
end Go.Oc
namespace Go.Proofs.YtnoahnbjdapieaaDoor
open Go.RowKit Go.Pm Go.Oc
set_option maxRecDepth 100000
set_option linter.unusedVariables false
set_option maxHeartbeats 8000000

theorem rStock_c {l : List Int} {s : TV} (hl : IsRow ic s l) (hll : l.length ≤ 17592186044415) : PCalls Tryd.prog 59 [s] (.bool (stockOk1 l)) := by
  have h0 : stkTo l 0 = inB l.length 2 10 := by unfold stkTo; simp
  refine pcalls_by Tryd.mixes spI2_ok (fn := Tryd.f59) Tryd.func59 rfl (by kernel_rfl) (by show 1 ≤ _; decide) ?_
  rcases hl with ⟨rfl, rfl⟩ | ⟨f, rfl⟩
  · have e2 : inB 0 2 10 = false := rfl
    have e3 : stockOk1 [] = false := rfl
    simp (decide := true) (maxSteps := 4000000) only [go_sem, Nat.reduceAdd, Nat.reduceSub, Nat.reduceMul, Nat.reduceDiv, Nat.reduceMod, Nat.reduceLT, Nat.reduceLeDiff, Nat.reduceEqDiff, Nat.reduceBEq, Nat.reduceBNe, Nat.reduceGT, Int.reduceAdd, Int.reduceSub, Int.reduceMul, Int.reduceNeg, Int.reduceLT, Int.reduceLE, Int.reduceEq, Int.reduceNe, Int.reduceBEq, Int.reduceBNe, Int.reduceToNat, Int.reduceGT, Int.reduceGE, ↓reduceIte, decide_true, decide_false, eq_self, Nat.mul_one, Nat.zero_mul, Nat.one_mul, Int.le_refl, Nat.le_refl, Int.cast_ofNat_Int, Tryd.f59, e2]
    refine pwpC_loopU (A := Unit) [0, 1, 2] (fun _ => [(4, .t (.int .i64 0)), (3, .t (.bool false))]) (fun _ => []) (fun _ => 0) () (by decide) (fun _ => by rfl) ?_ fun Q1 hQ1 _ I1 hI1 => ?_
    · simp (decide := true) (maxSteps := 4000000) only [go_sem, Nat.reduceAdd, Nat.reduceSub, Nat.reduceMul, Nat.reduceDiv, Nat.reduceMod, Nat.reduceLT, Nat.reduceLeDiff, Nat.reduceEqDiff, Nat.reduceBEq, Nat.reduceBNe, Nat.reduceGT, Int.reduceAdd, Int.reduceSub, Int.reduceMul, Int.reduceNeg, Int.reduceLT, Int.reduceLE, Int.reduceEq, Int.reduceNe, Int.reduceBEq, Int.reduceBNe, Int.reduceToNat, Int.reduceGT, Int.reduceGE, ↓reduceIte, decide_true, decide_false, eq_self, Nat.mul_one, Nat.zero_mul, Nat.one_mul, Int.le_refl, Nat.le_refl, Int.cast_ofNat_Int]
    · simp (decide := true) (maxSteps := 4000000) only [go_sem, Nat.reduceAdd, Nat.reduceSub, Nat.reduceMul, Nat.reduceDiv, Nat.reduceMod, Nat.reduceLT, Nat.reduceLeDiff, Nat.reduceEqDiff, Nat.reduceBEq, Nat.reduceBNe, Nat.reduceGT, Int.reduceAdd, Int.reduceSub, Int.reduceMul, Int.reduceNeg, Int.reduceLT, Int.reduceLE, Int.reduceEq, Int.reduceNe, Int.reduceBEq, Int.reduceBNe, Int.reduceToNat, Int.reduceGT, Int.reduceGE, ↓reduceIte, decide_true, decide_false, eq_self, Nat.mul_one, Nat.zero_mul, Nat.one_mul, Int.le_refl, Nat.le_refl, Int.cast_ofNat_Int]
      refine hQ1 _ _ ?_
      simp (decide := true) (maxSteps := 4000000) only [go_sem, Nat.reduceAdd, Nat.reduceSub, Nat.reduceMul, Nat.reduceDiv, Nat.reduceMod, Nat.reduceLT, Nat.reduceLeDiff, Nat.reduceEqDiff, Nat.reduceBEq, Nat.reduceBNe, Nat.reduceGT, Int.reduceAdd, Int.reduceSub, Int.reduceMul, Int.reduceNeg, Int.reduceLT, Int.reduceLE, Int.reduceEq, Int.reduceNe, Int.reduceBEq, Int.reduceBNe, Int.reduceToNat, Int.reduceGT, Int.reduceGE, ↓reduceIte, decide_true, decide_false, eq_self, Nat.mul_one, Nat.zero_mul, Nat.one_mul, Int.le_refl, Nat.le_refl, Int.cast_ofNat_Int, e3]
  · rw [ic_ints]
    simp (decide := true) (maxSteps := 4000000) only [go_sem, Nat.reduceAdd, Nat.reduceSub, Nat.reduceMul, Nat.reduceDiv, Nat.reduceMod, Nat.reduceLT, Nat.reduceLeDiff, Nat.reduceEqDiff, Nat.reduceBEq, Nat.reduceBNe, Nat.reduceGT, Int.reduceAdd, Int.reduceSub, Int.reduceMul, Int.reduceNeg, Int.reduceLT, Int.reduceLE, Int.reduceEq, Int.reduceNe, Int.reduceBEq, Int.reduceBNe, Int.reduceToNat, Int.reduceGT, Int.reduceGE, ↓reduceIte, decide_true, decide_false, eq_self, Nat.mul_one, Nat.zero_mul, Nat.one_mul, Int.le_refl, Nat.le_refl, Int.cast_ofNat_Int, Tryd.f59]
    refine pwpC_loopU (A := { k : Nat // k ≤ l.length }) [0, 1, 2] (fun k => [(4, .t (.int .i64 k.1)), (3, .t (.bool (stkTo l k.1)))]) (fun _ => []) (fun k => l.length - k.1) ⟨0, by omega⟩ (by decide) (fun _ => by rfl) ?_ fun Q1 hQ1 ⟨k, hk⟩ I1 hI1 => ?_
    · simp (decide := true) (maxSteps := 4000000) only [go_sem, Nat.reduceAdd, Nat.reduceSub, Nat.reduceMul, Nat.reduceDiv, Nat.reduceMod, Nat.reduceLT, Nat.reduceLeDiff, Nat.reduceEqDiff, Nat.reduceBEq, Nat.reduceBNe, Nat.reduceGT, Int.reduceAdd, Int.reduceSub, Int.reduceMul, Int.reduceNeg, Int.reduceLT, Int.reduceLE, Int.reduceEq, Int.reduceNe, Int.reduceBEq, Int.reduceBNe, Int.reduceToNat, Int.reduceGT, Int.reduceGE, ↓reduceIte, decide_true, decide_false, eq_self, Nat.mul_one, Nat.zero_mul, Nat.one_mul, Int.le_refl, Nat.le_refl, Int.cast_ofNat_Int, h0]
    · cases hok : stkTo l k with
      | false =>
        have e := stkTo_false hok
        simp (decide := true) (maxSteps := 4000000) only [go_sem, Nat.reduceAdd, Nat.reduceSub, Nat.reduceMul, Nat.reduceDiv, Nat.reduceMod, Nat.reduceLT, Nat.reduceLeDiff, Nat.reduceEqDiff, Nat.reduceBEq, Nat.reduceBNe, Nat.reduceGT, Int.reduceAdd, Int.reduceSub, Int.reduceMul, Int.reduceNeg, Int.reduceLT, Int.reduceLE, Int.reduceEq, Int.reduceNe, Int.reduceBEq, Int.reduceBNe, Int.reduceToNat, Int.reduceGT, Int.reduceGE, ↓reduceIte, decide_true, decide_false, eq_self, Nat.mul_one, Nat.zero_mul, Nat.one_mul, Int.le_refl, Nat.le_refl, Int.cast_ofNat_Int, hok]
        refine hQ1 _ _ ?_
        simp (decide := true) (maxSteps := 4000000) only [go_sem, Nat.reduceAdd, Nat.reduceSub, Nat.reduceMul, Nat.reduceDiv, Nat.reduceMod, Nat.reduceLT, Nat.reduceLeDiff, Nat.reduceEqDiff, Nat.reduceBEq, Nat.reduceBNe, Nat.reduceGT, Int.reduceAdd, Int.reduceSub, Int.reduceMul, Int.reduceNeg, Int.reduceLT, Int.reduceLE, Int.reduceEq, Int.reduceNe, Int.reduceBEq, Int.reduceBNe, Int.reduceToNat, Int.reduceGT, Int.reduceGE, ↓reduceIte, decide_true, decide_false, eq_self, Nat.mul_one, Nat.zero_mul, Nat.one_mul, Int.le_refl, Nat.le_refl, Int.cast_ofNat_Int, e]
      | true =>
        by_cases hlt : (k : Int) < l.length
        · obtain ⟨x, hx⟩ := get_lt hlt
          have hd := ints_at hx
          rw [Nat.mul_one] at hd
          have hc1 : IntKind.i64.wrap (k + 1) = ((k + 1 : Nat) : Int) := by rw [wrap_in (by omega) (by omega)]; omega
          have hs := stkTo_succ hx hok
          simp (decide := true) (maxSteps := 4000000) only [go_sem, Nat.reduceAdd, Nat.reduceSub, Nat.reduceMul, Nat.reduceDiv, Nat.reduceMod, Nat.reduceLT, Nat.reduceLeDiff, Nat.reduceEqDiff, Nat.reduceBEq, Nat.reduceBNe, Nat.reduceGT, Int.reduceAdd, Int.reduceSub, Int.reduceMul, Int.reduceNeg, Int.reduceLT, Int.reduceLE, Int.reduceEq, Int.reduceNe, Int.reduceBEq, Int.reduceBNe, Int.reduceToNat, Int.reduceGT, Int.reduceGE, ↓reduceIte, decide_true, decide_false, eq_self, Nat.mul_one, Nat.zero_mul, Nat.one_mul, Int.le_refl, Nat.le_refl, Int.cast_ofNat_Int, hok, hlt, hd]
          refine hI1 _ ⟨k + 1, by omega⟩ (by simp only; omega) ?_
          simp (decide := true) (maxSteps := 4000000) only [go_sem, Nat.reduceAdd, Nat.reduceSub, Nat.reduceMul, Nat.reduceDiv, Nat.reduceMod, Nat.reduceLT, Nat.reduceLeDiff, Nat.reduceEqDiff, Nat.reduceBEq, Nat.reduceBNe, Nat.reduceGT, Int.reduceAdd, Int.reduceSub, Int.reduceMul, Int.reduceNeg, Int.reduceLT, Int.reduceLE, Int.reduceEq, Int.reduceNe, Int.reduceBEq, Int.reduceBNe, Int.reduceToNat, Int.reduceGT, Int.reduceGE, ↓reduceIte, decide_true, decide_false, eq_self, Nat.mul_one, Nat.zero_mul, Nat.one_mul, Int.le_refl, Nat.le_refl, Int.cast_ofNat_Int, hc1, hs]
        · have hke : k = l.length := by omega
          subst hke
          have e : stockOk1 l = true := by rw [← stkTo_all]; exact hok
          simp (decide := true) (maxSteps := 4000000) only [go_sem, Nat.reduceAdd, Nat.reduceSub, Nat.reduceMul, Nat.reduceDiv, Nat.reduceMod, Nat.reduceLT, Nat.reduceLeDiff, Nat.reduceEqDiff, Nat.reduceBEq, Nat.reduceBNe, Nat.reduceGT, Int.reduceAdd, Int.reduceSub, Int.reduceMul, Int.reduceNeg, Int.reduceLT, Int.reduceLE, Int.reduceEq, Int.reduceNe, Int.reduceBEq, Int.reduceBNe, Int.reduceToNat, Int.reduceGT, Int.reduceGE, ↓reduceIte, decide_true, decide_false, eq_self, Nat.mul_one, Nat.zero_mul, Nat.one_mul, Int.le_refl, Nat.le_refl, Int.cast_ofNat_Int, hok, hlt]
          refine hQ1 _ _ ?_
          simp (decide := true) (maxSteps := 4000000) only [go_sem, Nat.reduceAdd, Nat.reduceSub, Nat.reduceMul, Nat.reduceDiv, Nat.reduceMod, Nat.reduceLT, Nat.reduceLeDiff, Nat.reduceEqDiff, Nat.reduceBEq, Nat.reduceBNe, Nat.reduceGT, Int.reduceAdd, Int.reduceSub, Int.reduceMul, Int.reduceNeg, Int.reduceLT, Int.reduceLE, Int.reduceEq, Int.reduceNe, Int.reduceBEq, Int.reduceBNe, Int.reduceToNat, Int.reduceGT, Int.reduceGE, ↓reduceIte, decide_true, decide_false, eq_self, Nat.mul_one, Nat.zero_mul, Nat.one_mul, Int.le_refl, Nat.le_refl, Int.cast_ofNat_Int, e]
noncomputable def rxStock : List TV → Option TV
  | [s] => match rowL unI s with
    | some l => if l.length ≤ 17592186044415 then some (.bool (stockOk1 l)) else none
    | none => none
  | _ => none
theorem rxStock_ok : ∀ xs r, rxStock xs = some r → PCalls Tryd.prog 59 xs r := by
  intro xs r h
  unfold rxStock at h
  split at h
  · split at h
    · rename_i l hl
      have hl := rowL_some (un := unI) rfl (@unI_some) hl
      split at h
      · rename_i hc; cases h; exact rStock_c hl hc
      · cases h
    · cases h
  · cases h
attribute [go_sem] rxStock
theorem rTrain_c {st : List Int} (full : Bool) (hok : stockOk1 st = true) {p q : Int} (hp : 0 ≤ p ∧ p ≤ 100000) (hq : 0 ≤ q ∧ q ≤ 100000) : PCalls Tryd.prog 60 [.sl (ints st) st.length full, .int .i64 p, .int .i64 q] (.tup [((trainP st p q).getD tn0).tv, .bool (trainP st p q).isSome]) := by
  have hok' := stockOk1_iff.1 hok
  have hb : ∀ {k : Nat} {x : Int}, st[k]? = some x → 0 ≤ x ∧ x ≤ 200 := fun h => by have := hok'.2 _ (List.mem_of_getElem? h); omega
  rw [← train_ref]
  refine pcalls_by Tryd.mixes noSpec_ok (fn := Tryd.f60) Tryd.func60 rfl (by kernel_rfl) (by show 3 ≤ _; decide) ?_
  simp (decide := true) (maxSteps := 4000000) only [go_sem, Nat.reduceAdd, Nat.reduceSub, Nat.reduceMul, Nat.reduceDiv, Nat.reduceMod, Nat.reduceLT, Nat.reduceLeDiff, Nat.reduceEqDiff, Nat.reduceBEq, Nat.reduceBNe, Nat.reduceGT, Int.reduceAdd, Int.reduceSub, Int.reduceMul, Int.reduceNeg, Int.reduceLT, Int.reduceLE, Int.reduceEq, Int.reduceNe, Int.reduceBEq, Int.reduceBNe, Int.reduceToNat, Int.reduceGT, Int.reduceGE, ↓reduceIte, decide_true, decide_false, eq_self, Nat.mul_one, Nat.zero_mul, Nat.one_mul, Int.le_refl, Nat.le_refl, Int.cast_ofNat_Int, Tryd.f60]
  refine pwpC_loopU (A := { k : Nat // k ≤ st.length ∧ fsTo (fun a => fsTo (r2 st p q a) st.length) k = none }) [0, 1, 2, 6, 7] (fun k => [(8, .t (.int .i64 k.1))]) (fun _ => []) (fun k => st.length - k.1) ⟨0, by omega, rfl⟩ (by decide) (fun _ => by rfl) ?_ fun Q1 hQ1 ⟨a, ha, hna⟩ I1 hI1 => ?_
  · simp (decide := true) (maxSteps := 4000000) only [go_sem, Nat.reduceAdd, Nat.reduceSub, Nat.reduceMul, Nat.reduceDiv, Nat.reduceMod, Nat.reduceLT, Nat.reduceLeDiff, Nat.reduceEqDiff, Nat.reduceBEq, Nat.reduceBNe, Nat.reduceGT, Int.reduceAdd, Int.reduceSub, Int.reduceMul, Int.reduceNeg, Int.reduceLT, Int.reduceLE, Int.reduceEq, Int.reduceNe, Int.reduceBEq, Int.reduceBNe, Int.reduceToNat, Int.reduceGT, Int.reduceGE, ↓reduceIte, decide_true, decide_false, eq_self, Nat.mul_one, Nat.zero_mul, Nat.one_mul, Int.le_refl, Nat.le_refl, Int.cast_ofNat_Int]
  · by_cases hlta : (a : Int) < st.length
    · have hia : IntKind.i64.wrap (a + 1) = ((a + 1 : Nat) : Int) := by rw [wrap_in (by omega) (by omega)]; omega
      obtain ⟨x, hx⟩ := get_lt hlta
      have hdx := ints_at hx
      rw [Nat.mul_one] at hdx
      have hnx := nthI_at hx
      simp (decide := true) (maxSteps := 4000000) only [go_sem, Nat.reduceAdd, Nat.reduceSub, Nat.reduceMul, Nat.reduceDiv, Nat.reduceMod, Nat.reduceLT, Nat.reduceLeDiff, Nat.reduceEqDiff, Nat.reduceBEq, Nat.reduceBNe, Nat.reduceGT, Int.reduceAdd, Int.reduceSub, Int.reduceMul, Int.reduceNeg, Int.reduceLT, Int.reduceLE, Int.reduceEq, Int.reduceNe, Int.reduceBEq, Int.reduceBNe, Int.reduceToNat, Int.reduceGT, Int.reduceGE, ↓reduceIte, decide_true, decide_false, eq_self, Nat.mul_one, Nat.zero_mul, Nat.one_mul, Int.le_refl, Nat.le_refl, Int.cast_ofNat_Int, hlta]
      refine pwpC_loopU (A := { k : Nat // k ≤ st.length ∧ fsTo (r2 st p q a) k = none }) [0, 1, 2, 6, 7, 8] (fun k => [(9, .t (.int .i64 k.1))]) (fun _ => []) (fun k => st.length - k.1) ⟨0, by omega, rfl⟩ (by decide) (fun _ => by rfl) ?_ fun Q2 hQ2 ⟨b, hbl, hnb⟩ I2 hI2 => ?_
      · simp (decide := true) (maxSteps := 4000000) only [go_sem, Nat.reduceAdd, Nat.reduceSub, Nat.reduceMul, Nat.reduceDiv, Nat.reduceMod, Nat.reduceLT, Nat.reduceLeDiff, Nat.reduceEqDiff, Nat.reduceBEq, Nat.reduceBNe, Nat.reduceGT, Int.reduceAdd, Int.reduceSub, Int.reduceMul, Int.reduceNeg, Int.reduceLT, Int.reduceLE, Int.reduceEq, Int.reduceNe, Int.reduceBEq, Int.reduceBNe, Int.reduceToNat, Int.reduceGT, Int.reduceGE, ↓reduceIte, decide_true, decide_false, eq_self, Nat.mul_one, Nat.zero_mul, Nat.one_mul, Int.le_refl, Nat.le_refl, Int.cast_ofNat_Int]
      · by_cases hltb : (b : Int) < st.length
        · have hib : IntKind.i64.wrap (b + 1) = ((b + 1 : Nat) : Int) := by rw [wrap_in (by omega) (by omega)]; omega
          obtain ⟨y, hy⟩ := get_lt hltb
          have hdy := ints_at hy
          rw [Nat.mul_one] at hdy
          have hny := nthI_at hy
          by_cases hab : a = b
          · have e1 : ((a : Int) != (b : Int)) = false := bne_int_f (by omega)
            have hno := r2_none (p := p) (q := q) hnx hny (fun h => h.1 hab)
            have w1 := prodB (hb hx) hq
            have w2 := prodB (hb hy) hp
            simp (decide := true) (maxSteps := 4000000) only [go_sem, Nat.reduceAdd, Nat.reduceSub, Nat.reduceMul, Nat.reduceDiv, Nat.reduceMod, Nat.reduceLT, Nat.reduceLeDiff, Nat.reduceEqDiff, Nat.reduceBEq, Nat.reduceBNe, Nat.reduceGT, Int.reduceAdd, Int.reduceSub, Int.reduceMul, Int.reduceNeg, Int.reduceLT, Int.reduceLE, Int.reduceEq, Int.reduceNe, Int.reduceBEq, Int.reduceBNe, Int.reduceToNat, Int.reduceGT, Int.reduceGE, ↓reduceIte, decide_true, decide_false, eq_self, Nat.mul_one, Nat.zero_mul, Nat.one_mul, Int.le_refl, Nat.le_refl, Int.cast_ofNat_Int, hltb, e1, hlta, hdx, hdy, w1, w2]
            refine hI2 _ ⟨b + 1, by omega, fsTo_next hnb hno⟩ (by simp only; omega) ?_
            simp (decide := true) (maxSteps := 4000000) only [go_sem, Nat.reduceAdd, Nat.reduceSub, Nat.reduceMul, Nat.reduceDiv, Nat.reduceMod, Nat.reduceLT, Nat.reduceLeDiff, Nat.reduceEqDiff, Nat.reduceBEq, Nat.reduceBNe, Nat.reduceGT, Int.reduceAdd, Int.reduceSub, Int.reduceMul, Int.reduceNeg, Int.reduceLT, Int.reduceLE, Int.reduceEq, Int.reduceNe, Int.reduceBEq, Int.reduceBNe, Int.reduceToNat, Int.reduceGT, Int.reduceGE, ↓reduceIte, decide_true, decide_false, eq_self, Nat.mul_one, Nat.zero_mul, Nat.one_mul, Int.le_refl, Nat.le_refl, Int.cast_ofNat_Int, hib]
          · have e1 : ((a : Int) != (b : Int)) = true := bne_int_t (by omega)
            have w1 := prodB (hb hx) hq
            have w2 := prodB (hb hy) hp
            by_cases he : x * q = y * p
            · have e2 : (x * q == y * p) = true := beq_int_t he
              have hso := r2_some hnx hny hab he
              have hres : trainR st p q = some ⟨a, b, -1, -1⟩ := by
                have := fsTo_hit hnb (by omega : b < st.length) hso
                have := fsTo_hit hna (by omega : a < st.length) this
                unfold trainR; rw [this]
              simp (decide := true) (maxSteps := 4000000) only [go_sem, Nat.reduceAdd, Nat.reduceSub, Nat.reduceMul, Nat.reduceDiv, Nat.reduceMod, Nat.reduceLT, Nat.reduceLeDiff, Nat.reduceEqDiff, Nat.reduceBEq, Nat.reduceBNe, Nat.reduceGT, Int.reduceAdd, Int.reduceSub, Int.reduceMul, Int.reduceNeg, Int.reduceLT, Int.reduceLE, Int.reduceEq, Int.reduceNe, Int.reduceBEq, Int.reduceBNe, Int.reduceToNat, Int.reduceGT, Int.reduceGE, ↓reduceIte, decide_true, decide_false, eq_self, Nat.mul_one, Nat.zero_mul, Nat.one_mul, Int.le_refl, Nat.le_refl, Int.cast_ofNat_Int, hltb, e1, hlta, hdx, hdy, w1, w2, e2]
              refine hQ2 _ _ ?_
              simp (decide := true) (maxSteps := 4000000) only [go_sem, Nat.reduceAdd, Nat.reduceSub, Nat.reduceMul, Nat.reduceDiv, Nat.reduceMod, Nat.reduceLT, Nat.reduceLeDiff, Nat.reduceEqDiff, Nat.reduceBEq, Nat.reduceBNe, Nat.reduceGT, Int.reduceAdd, Int.reduceSub, Int.reduceMul, Int.reduceNeg, Int.reduceLT, Int.reduceLE, Int.reduceEq, Int.reduceNe, Int.reduceBEq, Int.reduceBNe, Int.reduceToNat, Int.reduceGT, Int.reduceGE, ↓reduceIte, decide_true, decide_false, eq_self, Nat.mul_one, Nat.zero_mul, Nat.one_mul, Int.le_refl, Nat.le_refl, Int.cast_ofNat_Int]
              refine hQ1 _ _ ?_
              simp (decide := true) (maxSteps := 4000000) only [go_sem, Nat.reduceAdd, Nat.reduceSub, Nat.reduceMul, Nat.reduceDiv, Nat.reduceMod, Nat.reduceLT, Nat.reduceLeDiff, Nat.reduceEqDiff, Nat.reduceBEq, Nat.reduceBNe, Nat.reduceGT, Int.reduceAdd, Int.reduceSub, Int.reduceMul, Int.reduceNeg, Int.reduceLT, Int.reduceLE, Int.reduceEq, Int.reduceNe, Int.reduceBEq, Int.reduceBNe, Int.reduceToNat, Int.reduceGT, Int.reduceGE, ↓reduceIte, decide_true, decide_false, eq_self, Nat.mul_one, Nat.zero_mul, Nat.one_mul, Int.le_refl, Nat.le_refl, Int.cast_ofNat_Int, hres, Option.getD_some, Option.isSome_some, Tn.tv, Tn.cs]
            · have e2 : (x * q == y * p) = false := beq_int_f he
              have hno := r2_none (p := p) (q := q) hnx hny (fun h => he h.2)
              simp (decide := true) (maxSteps := 4000000) only [go_sem, Nat.reduceAdd, Nat.reduceSub, Nat.reduceMul, Nat.reduceDiv, Nat.reduceMod, Nat.reduceLT, Nat.reduceLeDiff, Nat.reduceEqDiff, Nat.reduceBEq, Nat.reduceBNe, Nat.reduceGT, Int.reduceAdd, Int.reduceSub, Int.reduceMul, Int.reduceNeg, Int.reduceLT, Int.reduceLE, Int.reduceEq, Int.reduceNe, Int.reduceBEq, Int.reduceBNe, Int.reduceToNat, Int.reduceGT, Int.reduceGE, ↓reduceIte, decide_true, decide_false, eq_self, Nat.mul_one, Nat.zero_mul, Nat.one_mul, Int.le_refl, Nat.le_refl, Int.cast_ofNat_Int, hltb, e1, hlta, hdx, hdy, w1, w2, e2]
              refine hI2 _ ⟨b + 1, by omega, fsTo_next hnb hno⟩ (by simp only; omega) ?_
              simp (decide := true) (maxSteps := 4000000) only [go_sem, Nat.reduceAdd, Nat.reduceSub, Nat.reduceMul, Nat.reduceDiv, Nat.reduceMod, Nat.reduceLT, Nat.reduceLeDiff, Nat.reduceEqDiff, Nat.reduceBEq, Nat.reduceBNe, Nat.reduceGT, Int.reduceAdd, Int.reduceSub, Int.reduceMul, Int.reduceNeg, Int.reduceLT, Int.reduceLE, Int.reduceEq, Int.reduceNe, Int.reduceBEq, Int.reduceBNe, Int.reduceToNat, Int.reduceGT, Int.reduceGE, ↓reduceIte, decide_true, decide_false, eq_self, Nat.mul_one, Nat.zero_mul, Nat.one_mul, Int.le_refl, Nat.le_refl, Int.cast_ofNat_Int, hib]
        · have hbe : b = st.length := by omega
          subst hbe
          simp (decide := true) (maxSteps := 4000000) only [go_sem, Nat.reduceAdd, Nat.reduceSub, Nat.reduceMul, Nat.reduceDiv, Nat.reduceMod, Nat.reduceLT, Nat.reduceLeDiff, Nat.reduceEqDiff, Nat.reduceBEq, Nat.reduceBNe, Nat.reduceGT, Int.reduceAdd, Int.reduceSub, Int.reduceMul, Int.reduceNeg, Int.reduceLT, Int.reduceLE, Int.reduceEq, Int.reduceNe, Int.reduceBEq, Int.reduceBNe, Int.reduceToNat, Int.reduceGT, Int.reduceGE, ↓reduceIte, decide_true, decide_false, eq_self, Nat.mul_one, Nat.zero_mul, Nat.one_mul, Int.le_refl, Nat.le_refl, Int.cast_ofNat_Int, hltb]
          refine hQ2 _ _ ?_
          simp (decide := true) (maxSteps := 4000000) only [go_sem, Nat.reduceAdd, Nat.reduceSub, Nat.reduceMul, Nat.reduceDiv, Nat.reduceMod, Nat.reduceLT, Nat.reduceLeDiff, Nat.reduceEqDiff, Nat.reduceBEq, Nat.reduceBNe, Nat.reduceGT, Int.reduceAdd, Int.reduceSub, Int.reduceMul, Int.reduceNeg, Int.reduceLT, Int.reduceLE, Int.reduceEq, Int.reduceNe, Int.reduceBEq, Int.reduceBNe, Int.reduceToNat, Int.reduceGT, Int.reduceGE, ↓reduceIte, decide_true, decide_false, eq_self, Nat.mul_one, Nat.zero_mul, Nat.one_mul, Int.le_refl, Nat.le_refl, Int.cast_ofNat_Int]
          refine hI1 _ ⟨a + 1, by omega, fsTo_next hna hnb⟩ (by simp only; omega) ?_
          simp (decide := true) (maxSteps := 4000000) only [go_sem, Nat.reduceAdd, Nat.reduceSub, Nat.reduceMul, Nat.reduceDiv, Nat.reduceMod, Nat.reduceLT, Nat.reduceLeDiff, Nat.reduceEqDiff, Nat.reduceBEq, Nat.reduceBNe, Nat.reduceGT, Int.reduceAdd, Int.reduceSub, Int.reduceMul, Int.reduceNeg, Int.reduceLT, Int.reduceLE, Int.reduceEq, Int.reduceNe, Int.reduceBEq, Int.reduceBNe, Int.reduceToNat, Int.reduceGT, Int.reduceGE, ↓reduceIte, decide_true, decide_false, eq_self, Nat.mul_one, Nat.zero_mul, Nat.one_mul, Int.le_refl, Nat.le_refl, Int.cast_ofNat_Int, hia]
    · have hae : a = st.length := by omega
      subst hae
      simp (decide := true) (maxSteps := 4000000) only [go_sem, Nat.reduceAdd, Nat.reduceSub, Nat.reduceMul, Nat.reduceDiv, Nat.reduceMod, Nat.reduceLT, Nat.reduceLeDiff, Nat.reduceEqDiff, Nat.reduceBEq, Nat.reduceBNe, Nat.reduceGT, Int.reduceAdd, Int.reduceSub, Int.reduceMul, Int.reduceNeg, Int.reduceLT, Int.reduceLE, Int.reduceEq, Int.reduceNe, Int.reduceBEq, Int.reduceBNe, Int.reduceToNat, Int.reduceGT, Int.reduceGE, ↓reduceIte, decide_true, decide_false, eq_self, Nat.mul_one, Nat.zero_mul, Nat.one_mul, Int.le_refl, Nat.le_refl, Int.cast_ofNat_Int, hlta]
      refine hQ1 _ _ ?_
      simp (decide := true) (maxSteps := 4000000) only [go_sem, Nat.reduceAdd, Nat.reduceSub, Nat.reduceMul, Nat.reduceDiv, Nat.reduceMod, Nat.reduceLT, Nat.reduceLeDiff, Nat.reduceEqDiff, Nat.reduceBEq, Nat.reduceBNe, Nat.reduceGT, Int.reduceAdd, Int.reduceSub, Int.reduceMul, Int.reduceNeg, Int.reduceLT, Int.reduceLE, Int.reduceEq, Int.reduceNe, Int.reduceBEq, Int.reduceBNe, Int.reduceToNat, Int.reduceGT, Int.reduceGE, ↓reduceIte, decide_true, decide_false, eq_self, Nat.mul_one, Nat.zero_mul, Nat.one_mul, Int.le_refl, Nat.le_refl, Int.cast_ofNat_Int]
      refine pwpC_loopU (A := { k : Nat // k ≤ st.length ∧ fsTo (fun a => fsTo (fun b => fsTo (fun c => fsTo (r4 st p q a b c) st.length) st.length) st.length) k = none }) [0, 1, 2, 6, 7] (fun k => [(10, .t (.int .i64 k.1))]) (fun _ => []) (fun k => st.length - k.1) ⟨0, by omega, rfl⟩ (by decide) (fun _ => by rfl) ?_ fun R1 hR1 ⟨a, ha, hma⟩ J1 hJ1 => ?_
      · simp (decide := true) (maxSteps := 4000000) only [go_sem, Nat.reduceAdd, Nat.reduceSub, Nat.reduceMul, Nat.reduceDiv, Nat.reduceMod, Nat.reduceLT, Nat.reduceLeDiff, Nat.reduceEqDiff, Nat.reduceBEq, Nat.reduceBNe, Nat.reduceGT, Int.reduceAdd, Int.reduceSub, Int.reduceMul, Int.reduceNeg, Int.reduceLT, Int.reduceLE, Int.reduceEq, Int.reduceNe, Int.reduceBEq, Int.reduceBNe, Int.reduceToNat, Int.reduceGT, Int.reduceGE, ↓reduceIte, decide_true, decide_false, eq_self, Nat.mul_one, Nat.zero_mul, Nat.one_mul, Int.le_refl, Nat.le_refl, Int.cast_ofNat_Int]
      · by_cases hlta : (a : Int) < st.length
        · have hia : IntKind.i64.wrap (a + 1) = ((a + 1 : Nat) : Int) := by rw [wrap_in (by omega) (by omega)]; omega
          obtain ⟨x, hx⟩ := get_lt hlta
          have hdx := ints_at hx
          rw [Nat.mul_one] at hdx
          have hnx := nthI_at hx
          simp (decide := true) (maxSteps := 4000000) only [go_sem, Nat.reduceAdd, Nat.reduceSub, Nat.reduceMul, Nat.reduceDiv, Nat.reduceMod, Nat.reduceLT, Nat.reduceLeDiff, Nat.reduceEqDiff, Nat.reduceBEq, Nat.reduceBNe, Nat.reduceGT, Int.reduceAdd, Int.reduceSub, Int.reduceMul, Int.reduceNeg, Int.reduceLT, Int.reduceLE, Int.reduceEq, Int.reduceNe, Int.reduceBEq, Int.reduceBNe, Int.reduceToNat, Int.reduceGT, Int.reduceGE, ↓reduceIte, decide_true, decide_false, eq_self, Nat.mul_one, Nat.zero_mul, Nat.one_mul, Int.le_refl, Nat.le_refl, Int.cast_ofNat_Int, hlta]
          refine pwpC_loopU (A := { k : Nat // k ≤ st.length ∧ fsTo (fun b => fsTo (fun c => fsTo (r4 st p q a b c) st.length) st.length) k = none }) [0, 1, 2, 6, 7, 10] (fun k => [(11, .t (.int .i64 k.1))]) (fun _ => []) (fun k => st.length - k.1) ⟨0, by omega, rfl⟩ (by decide) (fun _ => by rfl) ?_ fun R2 hR2 ⟨b, hbl, hmb⟩ J2 hJ2 => ?_
          · simp (decide := true) (maxSteps := 4000000) only [go_sem, Nat.reduceAdd, Nat.reduceSub, Nat.reduceMul, Nat.reduceDiv, Nat.reduceMod, Nat.reduceLT, Nat.reduceLeDiff, Nat.reduceEqDiff, Nat.reduceBEq, Nat.reduceBNe, Nat.reduceGT, Int.reduceAdd, Int.reduceSub, Int.reduceMul, Int.reduceNeg, Int.reduceLT, Int.reduceLE, Int.reduceEq, Int.reduceNe, Int.reduceBEq, Int.reduceBNe, Int.reduceToNat, Int.reduceGT, Int.reduceGE, ↓reduceIte, decide_true, decide_false, eq_self, Nat.mul_one, Nat.zero_mul, Nat.one_mul, Int.le_refl, Nat.le_refl, Int.cast_ofNat_Int]
          · by_cases hltb : (b : Int) < st.length
            · have hib : IntKind.i64.wrap (b + 1) = ((b + 1 : Nat) : Int) := by rw [wrap_in (by omega) (by omega)]; omega
              obtain ⟨y, hy⟩ := get_lt hltb
              have hdy := ints_at hy
              rw [Nat.mul_one] at hdy
              have hny := nthI_at hy
              simp (decide := true) (maxSteps := 4000000) only [go_sem, Nat.reduceAdd, Nat.reduceSub, Nat.reduceMul, Nat.reduceDiv, Nat.reduceMod, Nat.reduceLT, Nat.reduceLeDiff, Nat.reduceEqDiff, Nat.reduceBEq, Nat.reduceBNe, Nat.reduceGT, Int.reduceAdd, Int.reduceSub, Int.reduceMul, Int.reduceNeg, Int.reduceLT, Int.reduceLE, Int.reduceEq, Int.reduceNe, Int.reduceBEq, Int.reduceBNe, Int.reduceToNat, Int.reduceGT, Int.reduceGE, ↓reduceIte, decide_true, decide_false, eq_self, Nat.mul_one, Nat.zero_mul, Nat.one_mul, Int.le_refl, Nat.le_refl, Int.cast_ofNat_Int, hltb]
              refine pwpC_loopU (A := { k : Nat // k ≤ st.length ∧ fsTo (fun c => fsTo (r4 st p q a b c) st.length) k = none }) [0, 1, 2, 6, 7, 10, 11] (fun k => [(12, .t (.int .i64 k.1))]) (fun _ => []) (fun k => st.length - k.1) ⟨0, by omega, rfl⟩ (by decide) (fun _ => by rfl) ?_ fun R3 hR3 ⟨c, hcl, hmc⟩ J3 hJ3 => ?_
              · simp (decide := true) (maxSteps := 4000000) only [go_sem, Nat.reduceAdd, Nat.reduceSub, Nat.reduceMul, Nat.reduceDiv, Nat.reduceMod, Nat.reduceLT, Nat.reduceLeDiff, Nat.reduceEqDiff, Nat.reduceBEq, Nat.reduceBNe, Nat.reduceGT, Int.reduceAdd, Int.reduceSub, Int.reduceMul, Int.reduceNeg, Int.reduceLT, Int.reduceLE, Int.reduceEq, Int.reduceNe, Int.reduceBEq, Int.reduceBNe, Int.reduceToNat, Int.reduceGT, Int.reduceGE, ↓reduceIte, decide_true, decide_false, eq_self, Nat.mul_one, Nat.zero_mul, Nat.one_mul, Int.le_refl, Nat.le_refl, Int.cast_ofNat_Int]
              · by_cases hltc : (c : Int) < st.length
                · have hic : IntKind.i64.wrap (c + 1) = ((c + 1 : Nat) : Int) := by rw [wrap_in (by omega) (by omega)]; omega
                  obtain ⟨z, hz⟩ := get_lt hltc
                  have hdz := ints_at hz
                  rw [Nat.mul_one] at hdz
                  have hnz := nthI_at hz
                  simp (decide := true) (maxSteps := 4000000) only [go_sem, Nat.reduceAdd, Nat.reduceSub, Nat.reduceMul, Nat.reduceDiv, Nat.reduceMod, Nat.reduceLT, Nat.reduceLeDiff, Nat.reduceEqDiff, Nat.reduceBEq, Nat.reduceBNe, Nat.reduceGT, Int.reduceAdd, Int.reduceSub, Int.reduceMul, Int.reduceNeg, Int.reduceLT, Int.reduceLE, Int.reduceEq, Int.reduceNe, Int.reduceBEq, Int.reduceBNe, Int.reduceToNat, Int.reduceGT, Int.reduceGE, ↓reduceIte, decide_true, decide_false, eq_self, Nat.mul_one, Nat.zero_mul, Nat.one_mul, Int.le_refl, Nat.le_refl, Int.cast_ofNat_Int, hltc]
                  refine pwpC_loopU (A := { k : Nat // k ≤ st.length ∧ fsTo (r4 st p q a b c) k = none }) [0, 1, 2, 6, 7, 10, 11, 12] (fun k => [(13, .t (.int .i64 k.1))]) (fun _ => []) (fun k => st.length - k.1) ⟨0, by omega, rfl⟩ (by decide) (fun _ => by rfl) ?_ fun R4 hR4 ⟨d, hdl, hmd⟩ J4 hJ4 => ?_
                  · simp (decide := true) (maxSteps := 4000000) only [go_sem, Nat.reduceAdd, Nat.reduceSub, Nat.reduceMul, Nat.reduceDiv, Nat.reduceMod, Nat.reduceLT, Nat.reduceLeDiff, Nat.reduceEqDiff, Nat.reduceBEq, Nat.reduceBNe, Nat.reduceGT, Int.reduceAdd, Int.reduceSub, Int.reduceMul, Int.reduceNeg, Int.reduceLT, Int.reduceLE, Int.reduceEq, Int.reduceNe, Int.reduceBEq, Int.reduceBNe, Int.reduceToNat, Int.reduceGT, Int.reduceGE, ↓reduceIte, decide_true, decide_false, eq_self, Nat.mul_one, Nat.zero_mul, Nat.one_mul, Int.le_refl, Nat.le_refl, Int.cast_ofNat_Int]
                  · by_cases hltd : (d : Int) < st.length
                    · have hid : IntKind.i64.wrap (d + 1) = ((d + 1 : Nat) : Int) := by rw [wrap_in (by omega) (by omega)]; omega
                      obtain ⟨w, hw⟩ := get_lt hltd
                      have hdw := ints_at hw
                      rw [Nat.mul_one] at hdw
                      have hnw := nthI_at hw
                      have w1 := prodB2 (hb hx) (hb hz) hq
                      have w2 := prodB2 (hb hy) (hb hw) hp
                      by_cases h0 : a = b
                      · have e0 : ((a : Int) != (b : Int)) = false := bne_int_f (by omega)
                        have hno := r4_none (p := p) (q := q) hnx hny hnz hnw (fun h => h.1.1 h0)
                        simp (decide := true) (maxSteps := 4000000) only [go_sem, Nat.reduceAdd, Nat.reduceSub, Nat.reduceMul, Nat.reduceDiv, Nat.reduceMod, Nat.reduceLT, Nat.reduceLeDiff, Nat.reduceEqDiff, Nat.reduceBEq, Nat.reduceBNe, Nat.reduceGT, Int.reduceAdd, Int.reduceSub, Int.reduceMul, Int.reduceNeg, Int.reduceLT, Int.reduceLE, Int.reduceEq, Int.reduceNe, Int.reduceBEq, Int.reduceBNe, Int.reduceToNat, Int.reduceGT, Int.reduceGE, ↓reduceIte, decide_true, decide_false, eq_self, Nat.mul_one, Nat.zero_mul, Nat.one_mul, Int.le_refl, Nat.le_refl, Int.cast_ofNat_Int, hltd, hlta, hltb, hltc, hdx, hdy, hdz, hdw, w1, w2, e0]
                        refine hJ4 _ ⟨d + 1, by omega, fsTo_next hmd hno⟩ (by simp only; omega) ?_
                        simp (decide := true) (maxSteps := 4000000) only [go_sem, Nat.reduceAdd, Nat.reduceSub, Nat.reduceMul, Nat.reduceDiv, Nat.reduceMod, Nat.reduceLT, Nat.reduceLeDiff, Nat.reduceEqDiff, Nat.reduceBEq, Nat.reduceBNe, Nat.reduceGT, Int.reduceAdd, Int.reduceSub, Int.reduceMul, Int.reduceNeg, Int.reduceLT, Int.reduceLE, Int.reduceEq, Int.reduceNe, Int.reduceBEq, Int.reduceBNe, Int.reduceToNat, Int.reduceGT, Int.reduceGE, ↓reduceIte, decide_true, decide_false, eq_self, Nat.mul_one, Nat.zero_mul, Nat.one_mul, Int.le_refl, Nat.le_refl, Int.cast_ofNat_Int, hid]
                      have e0 : ((a : Int) != (b : Int)) = true := bne_int_t (by omega)
                      by_cases h1 : a = c
                      · have e1 : ((a : Int) != (c : Int)) = false := bne_int_f (by omega)
                        have hno := r4_none (p := p) (q := q) hnx hny hnz hnw (fun h => h.1.2.1 h1)
                        simp (decide := true) (maxSteps := 4000000) only [go_sem, Nat.reduceAdd, Nat.reduceSub, Nat.reduceMul, Nat.reduceDiv, Nat.reduceMod, Nat.reduceLT, Nat.reduceLeDiff, Nat.reduceEqDiff, Nat.reduceBEq, Nat.reduceBNe, Nat.reduceGT, Int.reduceAdd, Int.reduceSub, Int.reduceMul, Int.reduceNeg, Int.reduceLT, Int.reduceLE, Int.reduceEq, Int.reduceNe, Int.reduceBEq, Int.reduceBNe, Int.reduceToNat, Int.reduceGT, Int.reduceGE, ↓reduceIte, decide_true, decide_false, eq_self, Nat.mul_one, Nat.zero_mul, Nat.one_mul, Int.le_refl, Nat.le_refl, Int.cast_ofNat_Int, hltd, hlta, hltb, hltc, hdx, hdy, hdz, hdw, w1, w2, e0, e1]
                        refine hJ4 _ ⟨d + 1, by omega, fsTo_next hmd hno⟩ (by simp only; omega) ?_
                        simp (decide := true) (maxSteps := 4000000) only [go_sem, Nat.reduceAdd, Nat.reduceSub, Nat.reduceMul, Nat.reduceDiv, Nat.reduceMod, Nat.reduceLT, Nat.reduceLeDiff, Nat.reduceEqDiff, Nat.reduceBEq, Nat.reduceBNe, Nat.reduceGT, Int.reduceAdd, Int.reduceSub, Int.reduceMul, Int.reduceNeg, Int.reduceLT, Int.reduceLE, Int.reduceEq, Int.reduceNe, Int.reduceBEq, Int.reduceBNe, Int.reduceToNat, Int.reduceGT, Int.reduceGE, ↓reduceIte, decide_true, decide_false, eq_self, Nat.mul_one, Nat.zero_mul, Nat.one_mul, Int.le_refl, Nat.le_refl, Int.cast_ofNat_Int, hid]
                      have e1 : ((a : Int) != (c : Int)) = true := bne_int_t (by omega)
                      by_cases h2 : a = d
                      · have e2 : ((a : Int) != (d : Int)) = false := bne_int_f (by omega)
                        have hno := r4_none (p := p) (q := q) hnx hny hnz hnw (fun h => h.1.2.2.1 h2)
                        simp (decide := true) (maxSteps := 4000000) only [go_sem, Nat.reduceAdd, Nat.reduceSub, Nat.reduceMul, Nat.reduceDiv, Nat.reduceMod, Nat.reduceLT, Nat.reduceLeDiff, Nat.reduceEqDiff, Nat.reduceBEq, Nat.reduceBNe, Nat.reduceGT, Int.reduceAdd, Int.reduceSub, Int.reduceMul, Int.reduceNeg, Int.reduceLT, Int.reduceLE, Int.reduceEq, Int.reduceNe, Int.reduceBEq, Int.reduceBNe, Int.reduceToNat, Int.reduceGT, Int.reduceGE, ↓reduceIte, decide_true, decide_false, eq_self, Nat.mul_one, Nat.zero_mul, Nat.one_mul, Int.le_refl, Nat.le_refl, Int.cast_ofNat_Int, hltd, hlta, hltb, hltc, hdx, hdy, hdz, hdw, w1, w2, e0, e1, e2]
                        refine hJ4 _ ⟨d + 1, by omega, fsTo_next hmd hno⟩ (by simp only; omega) ?_
                        simp (decide := true) (maxSteps := 4000000) only [go_sem, Nat.reduceAdd, Nat.reduceSub, Nat.reduceMul, Nat.reduceDiv, Nat.reduceMod, Nat.reduceLT, Nat.reduceLeDiff, Nat.reduceEqDiff, Nat.reduceBEq, Nat.reduceBNe, Nat.reduceGT, Int.reduceAdd, Int.reduceSub, Int.reduceMul, Int.reduceNeg, Int.reduceLT, Int.reduceLE, Int.reduceEq, Int.reduceNe, Int.reduceBEq, Int.reduceBNe, Int.reduceToNat, Int.reduceGT, Int.reduceGE, ↓reduceIte, decide_true, decide_false, eq_self, Nat.mul_one, Nat.zero_mul, Nat.one_mul, Int.le_refl, Nat.le_refl, Int.cast_ofNat_Int, hid]
                      have e2 : ((a : Int) != (d : Int)) = true := bne_int_t (by omega)
                      by_cases h3 : b = c
                      · have e3 : ((b : Int) != (c : Int)) = false := bne_int_f (by omega)
                        have hno := r4_none (p := p) (q := q) hnx hny hnz hnw (fun h => h.1.2.2.2.1 h3)
                        simp (decide := true) (maxSteps := 4000000) only [go_sem, Nat.reduceAdd, Nat.reduceSub, Nat.reduceMul, Nat.reduceDiv, Nat.reduceMod, Nat.reduceLT, Nat.reduceLeDiff, Nat.reduceEqDiff, Nat.reduceBEq, Nat.reduceBNe, Nat.reduceGT, Int.reduceAdd, Int.reduceSub, Int.reduceMul, Int.reduceNeg, Int.reduceLT, Int.reduceLE, Int.reduceEq, Int.reduceNe, Int.reduceBEq, Int.reduceBNe, Int.reduceToNat, Int.reduceGT, Int.reduceGE, ↓reduceIte, decide_true, decide_false, eq_self, Nat.mul_one, Nat.zero_mul, Nat.one_mul, Int.le_refl, Nat.le_refl, Int.cast_ofNat_Int, hltd, hlta, hltb, hltc, hdx, hdy, hdz, hdw, w1, w2, e0, e1, e2, e3]
                        refine hJ4 _ ⟨d + 1, by omega, fsTo_next hmd hno⟩ (by simp only; omega) ?_
                        simp (decide := true) (maxSteps := 4000000) only [go_sem, Nat.reduceAdd, Nat.reduceSub, Nat.reduceMul, Nat.reduceDiv, Nat.reduceMod, Nat.reduceLT, Nat.reduceLeDiff, Nat.reduceEqDiff, Nat.reduceBEq, Nat.reduceBNe, Nat.reduceGT, Int.reduceAdd, Int.reduceSub, Int.reduceMul, Int.reduceNeg, Int.reduceLT, Int.reduceLE, Int.reduceEq, Int.reduceNe, Int.reduceBEq, Int.reduceBNe, Int.reduceToNat, Int.reduceGT, Int.reduceGE, ↓reduceIte, decide_true, decide_false, eq_self, Nat.mul_one, Nat.zero_mul, Nat.one_mul, Int.le_refl, Nat.le_refl, Int.cast_ofNat_Int, hid]
                      have e3 : ((b : Int) != (c : Int)) = true := bne_int_t (by omega)
                      by_cases h4 : b = d
                      · have e4 : ((b : Int) != (d : Int)) = false := bne_int_f (by omega)
                        have hno := r4_none (p := p) (q := q) hnx hny hnz hnw (fun h => h.1.2.2.2.2.1 h4)
                        simp (decide := true) (maxSteps := 4000000) only [go_sem, Nat.reduceAdd, Nat.reduceSub, Nat.reduceMul, Nat.reduceDiv, Nat.reduceMod, Nat.reduceLT, Nat.reduceLeDiff, Nat.reduceEqDiff, Nat.reduceBEq, Nat.reduceBNe, Nat.reduceGT, Int.reduceAdd, Int.reduceSub, Int.reduceMul, Int.reduceNeg, Int.reduceLT, Int.reduceLE, Int.reduceEq, Int.reduceNe, Int.reduceBEq, Int.reduceBNe, Int.reduceToNat, Int.reduceGT, Int.reduceGE, ↓reduceIte, decide_true, decide_false, eq_self, Nat.mul_one, Nat.zero_mul, Nat.one_mul, Int.le_refl, Nat.le_refl, Int.cast_ofNat_Int, hltd, hlta, hltb, hltc, hdx, hdy, hdz, hdw, w1, w2, e0, e1, e2, e3, e4]
                        refine hJ4 _ ⟨d + 1, by omega, fsTo_next hmd hno⟩ (by simp only; omega) ?_
                        simp (decide := true) (maxSteps := 4000000) only [go_sem, Nat.reduceAdd, Nat.reduceSub, Nat.reduceMul, Nat.reduceDiv, Nat.reduceMod, Nat.reduceLT, Nat.reduceLeDiff, Nat.reduceEqDiff, Nat.reduceBEq, Nat.reduceBNe, Nat.reduceGT, Int.reduceAdd, Int.reduceSub, Int.reduceMul, Int.reduceNeg, Int.reduceLT, Int.reduceLE, Int.reduceEq, Int.reduceNe, Int.reduceBEq, Int.reduceBNe, Int.reduceToNat, Int.reduceGT, Int.reduceGE, ↓reduceIte, decide_true, decide_false, eq_self, Nat.mul_one, Nat.zero_mul, Nat.one_mul, Int.le_refl, Nat.le_refl, Int.cast_ofNat_Int, hid]
                      have e4 : ((b : Int) != (d : Int)) = true := bne_int_t (by omega)
                      by_cases h5 : c = d
                      · have e5 : ((c : Int) != (d : Int)) = false := bne_int_f (by omega)
                        have hno := r4_none (p := p) (q := q) hnx hny hnz hnw (fun h => h.1.2.2.2.2.2 h5)
                        simp (decide := true) (maxSteps := 4000000) only [go_sem, Nat.reduceAdd, Nat.reduceSub, Nat.reduceMul, Nat.reduceDiv, Nat.reduceMod, Nat.reduceLT, Nat.reduceLeDiff, Nat.reduceEqDiff, Nat.reduceBEq, Nat.reduceBNe, Nat.reduceGT, Int.reduceAdd, Int.reduceSub, Int.reduceMul, Int.reduceNeg, Int.reduceLT, Int.reduceLE, Int.reduceEq, Int.reduceNe, Int.reduceBEq, Int.reduceBNe, Int.reduceToNat, Int.reduceGT, Int.reduceGE, ↓reduceIte, decide_true, decide_false, eq_self, Nat.mul_one, Nat.zero_mul, Nat.one_mul, Int.le_refl, Nat.le_refl, Int.cast_ofNat_Int, hltd, hlta, hltb, hltc, hdx, hdy, hdz, hdw, w1, w2, e0, e1, e2, e3, e4, e5]
                        refine hJ4 _ ⟨d + 1, by omega, fsTo_next hmd hno⟩ (by simp only; omega) ?_
                        simp (decide := true) (maxSteps := 4000000) only [go_sem, Nat.reduceAdd, Nat.reduceSub, Nat.reduceMul, Nat.reduceDiv, Nat.reduceMod, Nat.reduceLT, Nat.reduceLeDiff, Nat.reduceEqDiff, Nat.reduceBEq, Nat.reduceBNe, Nat.reduceGT, Int.reduceAdd, Int.reduceSub, Int.reduceMul, Int.reduceNeg, Int.reduceLT, Int.reduceLE, Int.reduceEq, Int.reduceNe, Int.reduceBEq, Int.reduceBNe, Int.reduceToNat, Int.reduceGT, Int.reduceGE, ↓reduceIte, decide_true, decide_false, eq_self, Nat.mul_one, Nat.zero_mul, Nat.one_mul, Int.le_refl, Nat.le_refl, Int.cast_ofNat_Int, hid]
                      have e5 : ((c : Int) != (d : Int)) = true := bne_int_t (by omega)
                      by_cases he : x * z * q = y * w * p
                      · have f2 : (x * z * q == y * w * p) = true := beq_int_t he
                        have hso := r4_some hnx hny hnz hnw ⟨h0, h1, h2, h3, h4, h5⟩ he
                        have hres : trainR st p q = some ⟨a, b, c, d⟩ := by
                          have := fsTo_hit hmd (by omega : d < st.length) hso
                          have := fsTo_hit hmc (by omega : c < st.length) this
                          have := fsTo_hit hmb (by omega : b < st.length) this
                          have := fsTo_hit hma (by omega : a < st.length) this
                          unfold trainR; rw [hna]; exact this
                        simp (decide := true) (maxSteps := 4000000) only [go_sem, Nat.reduceAdd, Nat.reduceSub, Nat.reduceMul, Nat.reduceDiv, Nat.reduceMod, Nat.reduceLT, Nat.reduceLeDiff, Nat.reduceEqDiff, Nat.reduceBEq, Nat.reduceBNe, Nat.reduceGT, Int.reduceAdd, Int.reduceSub, Int.reduceMul, Int.reduceNeg, Int.reduceLT, Int.reduceLE, Int.reduceEq, Int.reduceNe, Int.reduceBEq, Int.reduceBNe, Int.reduceToNat, Int.reduceGT, Int.reduceGE, ↓reduceIte, decide_true, decide_false, eq_self, Nat.mul_one, Nat.zero_mul, Nat.one_mul, Int.le_refl, Nat.le_refl, Int.cast_ofNat_Int, hltd, e0, e1, e2, e3, e4, e5, hlta, hltb, hltc, hdx, hdy, hdz, hdw, w1, w2, f2]
                        refine hR4 _ _ ?_
                        simp (decide := true) (maxSteps := 4000000) only [go_sem, Nat.reduceAdd, Nat.reduceSub, Nat.reduceMul, Nat.reduceDiv, Nat.reduceMod, Nat.reduceLT, Nat.reduceLeDiff, Nat.reduceEqDiff, Nat.reduceBEq, Nat.reduceBNe, Nat.reduceGT, Int.reduceAdd, Int.reduceSub, Int.reduceMul, Int.reduceNeg, Int.reduceLT, Int.reduceLE, Int.reduceEq, Int.reduceNe, Int.reduceBEq, Int.reduceBNe, Int.reduceToNat, Int.reduceGT, Int.reduceGE, ↓reduceIte, decide_true, decide_false, eq_self, Nat.mul_one, Nat.zero_mul, Nat.one_mul, Int.le_refl, Nat.le_refl, Int.cast_ofNat_Int]
                        refine hR3 _ _ ?_
                        simp (decide := true) (maxSteps := 4000000) only [go_sem, Nat.reduceAdd, Nat.reduceSub, Nat.reduceMul, Nat.reduceDiv, Nat.reduceMod, Nat.reduceLT, Nat.reduceLeDiff, Nat.reduceEqDiff, Nat.reduceBEq, Nat.reduceBNe, Nat.reduceGT, Int.reduceAdd, Int.reduceSub, Int.reduceMul, Int.reduceNeg, Int.reduceLT, Int.reduceLE, Int.reduceEq, Int.reduceNe, Int.reduceBEq, Int.reduceBNe, Int.reduceToNat, Int.reduceGT, Int.reduceGE, ↓reduceIte, decide_true, decide_false, eq_self, Nat.mul_one, Nat.zero_mul, Nat.one_mul, Int.le_refl, Nat.le_refl, Int.cast_ofNat_Int]
                        refine hR2 _ _ ?_
                        simp (decide := true) (maxSteps := 4000000) only [go_sem, Nat.reduceAdd, Nat.reduceSub, Nat.reduceMul, Nat.reduceDiv, Nat.reduceMod, Nat.reduceLT, Nat.reduceLeDiff, Nat.reduceEqDiff, Nat.reduceBEq, Nat.reduceBNe, Nat.reduceGT, Int.reduceAdd, Int.reduceSub, Int.reduceMul, Int.reduceNeg, Int.reduceLT, Int.reduceLE, Int.reduceEq, Int.reduceNe, Int.reduceBEq, Int.reduceBNe, Int.reduceToNat, Int.reduceGT, Int.reduceGE, ↓reduceIte, decide_true, decide_false, eq_self, Nat.mul_one, Nat.zero_mul, Nat.one_mul, Int.le_refl, Nat.le_refl, Int.cast_ofNat_Int]
                        refine hR1 _ _ ?_
                        simp (decide := true) (maxSteps := 4000000) only [go_sem, Nat.reduceAdd, Nat.reduceSub, Nat.reduceMul, Nat.reduceDiv, Nat.reduceMod, Nat.reduceLT, Nat.reduceLeDiff, Nat.reduceEqDiff, Nat.reduceBEq, Nat.reduceBNe, Nat.reduceGT, Int.reduceAdd, Int.reduceSub, Int.reduceMul, Int.reduceNeg, Int.reduceLT, Int.reduceLE, Int.reduceEq, Int.reduceNe, Int.reduceBEq, Int.reduceBNe, Int.reduceToNat, Int.reduceGT, Int.reduceGE, ↓reduceIte, decide_true, decide_false, eq_self, Nat.mul_one, Nat.zero_mul, Nat.one_mul, Int.le_refl, Nat.le_refl, Int.cast_ofNat_Int, hres, Option.getD_some, Option.isSome_some, Tn.tv, Tn.cs]
                      · have f2 : (x * z * q == y * w * p) = false := beq_int_f he
                        have hno := r4_none (p := p) (q := q) hnx hny hnz hnw (fun h => he h.2)
                        simp (decide := true) (maxSteps := 4000000) only [go_sem, Nat.reduceAdd, Nat.reduceSub, Nat.reduceMul, Nat.reduceDiv, Nat.reduceMod, Nat.reduceLT, Nat.reduceLeDiff, Nat.reduceEqDiff, Nat.reduceBEq, Nat.reduceBNe, Nat.reduceGT, Int.reduceAdd, Int.reduceSub, Int.reduceMul, Int.reduceNeg, Int.reduceLT, Int.reduceLE, Int.reduceEq, Int.reduceNe, Int.reduceBEq, Int.reduceBNe, Int.reduceToNat, Int.reduceGT, Int.reduceGE, ↓reduceIte, decide_true, decide_false, eq_self, Nat.mul_one, Nat.zero_mul, Nat.one_mul, Int.le_refl, Nat.le_refl, Int.cast_ofNat_Int, hltd, e0, e1, e2, e3, e4, e5, hlta, hltb, hltc, hdx, hdy, hdz, hdw, w1, w2, f2]
                        refine hJ4 _ ⟨d + 1, by omega, fsTo_next hmd hno⟩ (by simp only; omega) ?_
                        simp (decide := true) (maxSteps := 4000000) only [go_sem, Nat.reduceAdd, Nat.reduceSub, Nat.reduceMul, Nat.reduceDiv, Nat.reduceMod, Nat.reduceLT, Nat.reduceLeDiff, Nat.reduceEqDiff, Nat.reduceBEq, Nat.reduceBNe, Nat.reduceGT, Int.reduceAdd, Int.reduceSub, Int.reduceMul, Int.reduceNeg, Int.reduceLT, Int.reduceLE, Int.reduceEq, Int.reduceNe, Int.reduceBEq, Int.reduceBNe, Int.reduceToNat, Int.reduceGT, Int.reduceGE, ↓reduceIte, decide_true, decide_false, eq_self, Nat.mul_one, Nat.zero_mul, Nat.one_mul, Int.le_refl, Nat.le_refl, Int.cast_ofNat_Int, hid]
                    · have hde : d = st.length := by omega
                      subst hde
                      simp (decide := true) (maxSteps := 4000000) only [go_sem, Nat.reduceAdd, Nat.reduceSub, Nat.reduceMul, Nat.reduceDiv, Nat.reduceMod, Nat.reduceLT, Nat.reduceLeDiff, Nat.reduceEqDiff, Nat.reduceBEq, Nat.reduceBNe, Nat.reduceGT, Int.reduceAdd, Int.reduceSub, Int.reduceMul, Int.reduceNeg, Int.reduceLT, Int.reduceLE, Int.reduceEq, Int.reduceNe, Int.reduceBEq, Int.reduceBNe, Int.reduceToNat, Int.reduceGT, Int.reduceGE, ↓reduceIte, decide_true, decide_false, eq_self, Nat.mul_one, Nat.zero_mul, Nat.one_mul, Int.le_refl, Nat.le_refl, Int.cast_ofNat_Int, hltd]
                      refine hR4 _ _ ?_
                      simp (decide := true) (maxSteps := 4000000) only [go_sem, Nat.reduceAdd, Nat.reduceSub, Nat.reduceMul, Nat.reduceDiv, Nat.reduceMod, Nat.reduceLT, Nat.reduceLeDiff, Nat.reduceEqDiff, Nat.reduceBEq, Nat.reduceBNe, Nat.reduceGT, Int.reduceAdd, Int.reduceSub, Int.reduceMul, Int.reduceNeg, Int.reduceLT, Int.reduceLE, Int.reduceEq, Int.reduceNe, Int.reduceBEq, Int.reduceBNe, Int.reduceToNat, Int.reduceGT, Int.reduceGE, ↓reduceIte, decide_true, decide_false, eq_self, Nat.mul_one, Nat.zero_mul, Nat.one_mul, Int.le_refl, Nat.le_refl, Int.cast_ofNat_Int]
                      refine hJ3 _ ⟨c + 1, by omega, fsTo_next hmc hmd⟩ (by simp only; omega) ?_
                      simp (decide := true) (maxSteps := 4000000) only [go_sem, Nat.reduceAdd, Nat.reduceSub, Nat.reduceMul, Nat.reduceDiv, Nat.reduceMod, Nat.reduceLT, Nat.reduceLeDiff, Nat.reduceEqDiff, Nat.reduceBEq, Nat.reduceBNe, Nat.reduceGT, Int.reduceAdd, Int.reduceSub, Int.reduceMul, Int.reduceNeg, Int.reduceLT, Int.reduceLE, Int.reduceEq, Int.reduceNe, Int.reduceBEq, Int.reduceBNe, Int.reduceToNat, Int.reduceGT, Int.reduceGE, ↓reduceIte, decide_true, decide_false, eq_self, Nat.mul_one, Nat.zero_mul, Nat.one_mul, Int.le_refl, Nat.le_refl, Int.cast_ofNat_Int, hic]
                · have hce : c = st.length := by omega
                  subst hce
                  simp (decide := true) (maxSteps := 4000000) only [go_sem, Nat.reduceAdd, Nat.reduceSub, Nat.reduceMul, Nat.reduceDiv, Nat.reduceMod, Nat.reduceLT, Nat.reduceLeDiff, Nat.reduceEqDiff, Nat.reduceBEq, Nat.reduceBNe, Nat.reduceGT, Int.reduceAdd, Int.reduceSub, Int.reduceMul, Int.reduceNeg, Int.reduceLT, Int.reduceLE, Int.reduceEq, Int.reduceNe, Int.reduceBEq, Int.reduceBNe, Int.reduceToNat, Int.reduceGT, Int.reduceGE, ↓reduceIte, decide_true, decide_false, eq_self, Nat.mul_one, Nat.zero_mul, Nat.one_mul, Int.le_refl, Nat.le_refl, Int.cast_ofNat_Int, hltc]
                  refine hR3 _ _ ?_
                  simp (decide := true) (maxSteps := 4000000) only [go_sem, Nat.reduceAdd, Nat.reduceSub, Nat.reduceMul, Nat.reduceDiv, Nat.reduceMod, Nat.reduceLT, Nat.reduceLeDiff, Nat.reduceEqDiff, Nat.reduceBEq, Nat.reduceBNe, Nat.reduceGT, Int.reduceAdd, Int.reduceSub, Int.reduceMul, Int.reduceNeg, Int.reduceLT, Int.reduceLE, Int.reduceEq, Int.reduceNe, Int.reduceBEq, Int.reduceBNe, Int.reduceToNat, Int.reduceGT, Int.reduceGE, ↓reduceIte, decide_true, decide_false, eq_self, Nat.mul_one, Nat.zero_mul, Nat.one_mul, Int.le_refl, Nat.le_refl, Int.cast_ofNat_Int]
                  refine hJ2 _ ⟨b + 1, by omega, fsTo_next hmb hmc⟩ (by simp only; omega) ?_
                  simp (decide := true) (maxSteps := 4000000) only [go_sem, Nat.reduceAdd, Nat.reduceSub, Nat.reduceMul, Nat.reduceDiv, Nat.reduceMod, Nat.reduceLT, Nat.reduceLeDiff, Nat.reduceEqDiff, Nat.reduceBEq, Nat.reduceBNe, Nat.reduceGT, Int.reduceAdd, Int.reduceSub, Int.reduceMul, Int.reduceNeg, Int.reduceLT, Int.reduceLE, Int.reduceEq, Int.reduceNe, Int.reduceBEq, Int.reduceBNe, Int.reduceToNat, Int.reduceGT, Int.reduceGE, ↓reduceIte, decide_true, decide_false, eq_self, Nat.mul_one, Nat.zero_mul, Nat.one_mul, Int.le_refl, Nat.le_refl, Int.cast_ofNat_Int, hib]
            · have hbe : b = st.length := by omega
              subst hbe
              simp (decide := true) (maxSteps := 4000000) only [go_sem, Nat.reduceAdd, Nat.reduceSub, Nat.reduceMul, Nat.reduceDiv, Nat.reduceMod, Nat.reduceLT, Nat.reduceLeDiff, Nat.reduceEqDiff, Nat.reduceBEq, Nat.reduceBNe, Nat.reduceGT, Int.reduceAdd, Int.reduceSub, Int.reduceMul, Int.reduceNeg, Int.reduceLT, Int.reduceLE, Int.reduceEq, Int.reduceNe, Int.reduceBEq, Int.reduceBNe, Int.reduceToNat, Int.reduceGT, Int.reduceGE, ↓reduceIte, decide_true, decide_false, eq_self, Nat.mul_one, Nat.zero_mul, Nat.one_mul, Int.le_refl, Nat.le_refl, Int.cast_ofNat_Int, hltb]
              refine hR2 _ _ ?_
              simp (decide := true) (maxSteps := 4000000) only [go_sem, Nat.reduceAdd, Nat.reduceSub, Nat.reduceMul, Nat.reduceDiv, Nat.reduceMod, Nat.reduceLT, Nat.reduceLeDiff, Nat.reduceEqDiff, Nat.reduceBEq, Nat.reduceBNe, Nat.reduceGT, Int.reduceAdd, Int.reduceSub, Int.reduceMul, Int.reduceNeg, Int.reduceLT, Int.reduceLE, Int.reduceEq, Int.reduceNe, Int.reduceBEq, Int.reduceBNe, Int.reduceToNat, Int.reduceGT, Int.reduceGE, ↓reduceIte, decide_true, decide_false, eq_self, Nat.mul_one, Nat.zero_mul, Nat.one_mul, Int.le_refl, Nat.le_refl, Int.cast_ofNat_Int]
              refine hJ1 _ ⟨a + 1, by omega, fsTo_next hma hmb⟩ (by simp only; omega) ?_
              simp (decide := true) (maxSteps := 4000000) only [go_sem, Nat.reduceAdd, Nat.reduceSub, Nat.reduceMul, Nat.reduceDiv, Nat.reduceMod, Nat.reduceLT, Nat.reduceLeDiff, Nat.reduceEqDiff, Nat.reduceBEq, Nat.reduceBNe, Nat.reduceGT, Int.reduceAdd, Int.reduceSub, Int.reduceMul, Int.reduceNeg, Int.reduceLT, Int.reduceLE, Int.reduceEq, Int.reduceNe, Int.reduceBEq, Int.reduceBNe, Int.reduceToNat, Int.reduceGT, Int.reduceGE, ↓reduceIte, decide_true, decide_false, eq_self, Nat.mul_one, Nat.zero_mul, Nat.one_mul, Int.le_refl, Nat.le_refl, Int.cast_ofNat_Int, hia]
        · have hae : a = st.length := by omega
          subst hae
          have hres : trainR st p q = none := by unfold trainR; rw [hna]; exact hma
          simp (decide := true) (maxSteps := 4000000) only [go_sem, Nat.reduceAdd, Nat.reduceSub, Nat.reduceMul, Nat.reduceDiv, Nat.reduceMod, Nat.reduceLT, Nat.reduceLeDiff, Nat.reduceEqDiff, Nat.reduceBEq, Nat.reduceBNe, Nat.reduceGT, Int.reduceAdd, Int.reduceSub, Int.reduceMul, Int.reduceNeg, Int.reduceLT, Int.reduceLE, Int.reduceEq, Int.reduceNe, Int.reduceBEq, Int.reduceBNe, Int.reduceToNat, Int.reduceGT, Int.reduceGE, ↓reduceIte, decide_true, decide_false, eq_self, Nat.mul_one, Nat.zero_mul, Nat.one_mul, Int.le_refl, Nat.le_refl, Int.cast_ofNat_Int, hlta]
          refine hR1 _ _ ?_
          simp (decide := true) (maxSteps := 4000000) only [go_sem, Nat.reduceAdd, Nat.reduceSub, Nat.reduceMul, Nat.reduceDiv, Nat.reduceMod, Nat.reduceLT, Nat.reduceLeDiff, Nat.reduceEqDiff, Nat.reduceBEq, Nat.reduceBNe, Nat.reduceGT, Int.reduceAdd, Int.reduceSub, Int.reduceMul, Int.reduceNeg, Int.reduceLT, Int.reduceLE, Int.reduceEq, Int.reduceNe, Int.reduceBEq, Int.reduceBNe, Int.reduceToNat, Int.reduceGT, Int.reduceGE, ↓reduceIte, decide_true, decide_false, eq_self, Nat.mul_one, Nat.zero_mul, Nat.one_mul, Int.le_refl, Nat.le_refl, Int.cast_ofNat_Int, hres, Option.getD_none, Option.isSome_none, tn0, Tn.tv, Tn.cs]
noncomputable def rxTrain : List TV → Option TV
  | [.sl cs n full, .int .i64 p, .int .i64 q] => match unI cs with
    | some st => if n = st.length ∧ stockOk1 st = true ∧ (0 ≤ p ∧ p ≤ 100000) ∧ 0 ≤ q ∧ q ≤ 100000 then some (.tup [((trainP st p q).getD tn0).tv, .bool (trainP st p q).isSome]) else none
    | none => none
  | _ => none
theorem rxTrain_ok : ∀ xs r, rxTrain xs = some r → PCalls Tryd.prog 60 xs r := by
  intro xs r h
  unfold rxTrain at h
  split at h
  · rename_i cs n full p q
    split at h
    · rename_i st hl
      split at h
      · rename_i hc; cases h
        obtain ⟨rfl, h0, h1, h2⟩ := hc
        have e := unI_some hl
        rw [ic_ints] at e
        subst e
        exact rTrain_c full h0 h1 h2
      · cases h
    · cases h
  · cases h
attribute [go_sem] rxTrain
noncomputable def spJ1 : Pm.Spec := (spG2.one 59 rxStock).one 60 rxTrain
@[go_sem] theorem spJ1_p (f : FuncId) (xs : List TV) : spJ1.p f xs = Pm.Spec.p ((spG2.one 59 rxStock).one 60 rxTrain) f xs := rfl
@[go_sem] theorem spJ1_h (f : FuncId) (ps : List PV) (hl : List PO) : spJ1.h f ps hl = Pm.Spec.h ((spG2.one 59 rxStock).one 60 rxTrain) f ps hl := rfl
@[go_sem] theorem spJ1_fz (f : FuncId) : spJ1.fz f = Pm.Spec.fz ((spG2.one 59 rxStock).one 60 rxTrain) f := rfl
@[go_sem] theorem spJ1_fr (f : FuncId) : spJ1.fr f = Pm.Spec.fr ((spG2.one 59 rxStock).one 60 rxTrain) f := rfl
@[go_sem] theorem spJ1_mu (t : TypeId) : spJ1.mu t = Pm.Spec.mu ((spG2.one 59 rxStock).one 60 rxTrain) t := rfl
theorem spJ1_ok : SpecOk Tryd.prog spJ1 := Spec.one_ok rxTrain_ok (Spec.one_ok rxStock_ok spG2_ok)
theorem rTrainE_c {st : List Int} {s : TV} (hs : IsRow ic s st) (hsl : st.length ≤ 17592186044415) (p q : Int) : PCalls Tryd.prog 28 [s, .int .i64 p, .int .i64 q] (.tup [(trainE st p q).1.tv, .int .i64 (trainE st p q).2]) := by
  have rI := rowI_is hs
  unfold rowL at rI
  unfold trainE
  refine pcalls_by Tryd.mixes spJ1_ok (fn := Tryd.f28) Tryd.func28 rfl (by kernel_rfl) (by show 3 ≤ _; decide) ?_
  cases h1 : stockOk1 st with
  | false => cases h2 : inB p 1 100000 <;> cases h3 : inB q 1 100000 <;> simp (decide := true) (maxSteps := 4000000) only [go_sem, Nat.reduceAdd, Nat.reduceSub, Nat.reduceMul, Nat.reduceDiv, Nat.reduceMod, Nat.reduceLT, Nat.reduceLeDiff, Nat.reduceEqDiff, Nat.reduceBEq, Nat.reduceBNe, Nat.reduceGT, Int.reduceAdd, Int.reduceSub, Int.reduceMul, Int.reduceNeg, Int.reduceLT, Int.reduceLE, Int.reduceEq, Int.reduceNe, Int.reduceBEq, Int.reduceBNe, Int.reduceToNat, Int.reduceGT, Int.reduceGE, ↓reduceIte, decide_true, decide_false, eq_self, Nat.mul_one, Nat.zero_mul, Nat.one_mul, Int.le_refl, Nat.le_refl, Int.cast_ofNat_Int, Tryd.f28, rI, hsl, h1, h2, h3, Tn.tv, Tn.cs]
  | true =>
    have h1' := stockOk1_iff.1 h1
    cases h2 : inB p 1 100000 with
    | false => cases h3 : inB q 1 100000 <;> simp (decide := true) (maxSteps := 4000000) only [go_sem, Nat.reduceAdd, Nat.reduceSub, Nat.reduceMul, Nat.reduceDiv, Nat.reduceMod, Nat.reduceLT, Nat.reduceLeDiff, Nat.reduceEqDiff, Nat.reduceBEq, Nat.reduceBNe, Nat.reduceGT, Int.reduceAdd, Int.reduceSub, Int.reduceMul, Int.reduceNeg, Int.reduceLT, Int.reduceLE, Int.reduceEq, Int.reduceNe, Int.reduceBEq, Int.reduceBNe, Int.reduceToNat, Int.reduceGT, Int.reduceGE, ↓reduceIte, decide_true, decide_false, eq_self, Nat.mul_one, Nat.zero_mul, Nat.one_mul, Int.le_refl, Nat.le_refl, Int.cast_ofNat_Int, Tryd.f28, rI, hsl, h1, h2, h3, Tn.tv, Tn.cs]
    | true =>
      cases h3 : inB q 1 100000 with
      | false => simp (decide := true) (maxSteps := 4000000) only [go_sem, Nat.reduceAdd, Nat.reduceSub, Nat.reduceMul, Nat.reduceDiv, Nat.reduceMod, Nat.reduceLT, Nat.reduceLeDiff, Nat.reduceEqDiff, Nat.reduceBEq, Nat.reduceBNe, Nat.reduceGT, Int.reduceAdd, Int.reduceSub, Int.reduceMul, Int.reduceNeg, Int.reduceLT, Int.reduceLE, Int.reduceEq, Int.reduceNe, Int.reduceBEq, Int.reduceBNe, Int.reduceToNat, Int.reduceGT, Int.reduceGE, ↓reduceIte, decide_true, decide_false, eq_self, Nat.mul_one, Nat.zero_mul, Nat.one_mul, Int.le_refl, Nat.le_refl, Int.cast_ofNat_Int, Tryd.f28, rI, hsl, h1, h2, h3, Tn.tv, Tn.cs]
      | true =>
        have hp := inB_iff.1 h2
        have hq := inB_iff.1 h3
        obtain ⟨f, rfl⟩ := hs.ne (by omega)
        rw [ic_ints] at rI ⊢
        simp only [unI_eq, if_true] at rI
        have c1 : (0 ≤ p ∧ p ≤ 100000) ∧ 0 ≤ q ∧ q ≤ 100000 := by omega
        cases htr : trainP st p q with
        | none => simp (decide := true) (maxSteps := 4000000) only [go_sem, Nat.reduceAdd, Nat.reduceSub, Nat.reduceMul, Nat.reduceDiv, Nat.reduceMod, Nat.reduceLT, Nat.reduceLeDiff, Nat.reduceEqDiff, Nat.reduceBEq, Nat.reduceBNe, Nat.reduceGT, Int.reduceAdd, Int.reduceSub, Int.reduceMul, Int.reduceNeg, Int.reduceLT, Int.reduceLE, Int.reduceEq, Int.reduceNe, Int.reduceBEq, Int.reduceBNe, Int.reduceToNat, Int.reduceGT, Int.reduceGE, ↓reduceIte, decide_true, decide_false, eq_self, Nat.mul_one, Nat.zero_mul, Nat.one_mul, Int.le_refl, Nat.le_refl, Int.cast_ofNat_Int, Tryd.f28, rI, hsl, h1, h2, h3, unI_eq, c1, htr, Option.getD_none, Option.isSome_none, tn0, Tn.tv, Tn.cs]
        | some tr => simp (decide := true) (maxSteps := 4000000) only [go_sem, Nat.reduceAdd, Nat.reduceSub, Nat.reduceMul, Nat.reduceDiv, Nat.reduceMod, Nat.reduceLT, Nat.reduceLeDiff, Nat.reduceEqDiff, Nat.reduceBEq, Nat.reduceBNe, Nat.reduceGT, Int.reduceAdd, Int.reduceSub, Int.reduceMul, Int.reduceNeg, Int.reduceLT, Int.reduceLE, Int.reduceEq, Int.reduceNe, Int.reduceBEq, Int.reduceBNe, Int.reduceToNat, Int.reduceGT, Int.reduceGE, ↓reduceIte, decide_true, decide_false, eq_self, Nat.mul_one, Nat.zero_mul, Nat.one_mul, Int.le_refl, Nat.le_refl, Int.cast_ofNat_Int, Tryd.f28, rI, hsl, h1, h2, h3, unI_eq, c1, htr, Option.getD_some, Option.isSome_some, Tn.tv, Tn.cs]
theorem rDiff_c (t : Int) {l : List Int} {s : TV} (hl : IsRow ic s l) (hll : l.length ≤ 17592186044415) {st : List Int} {ss : TV} (hs : IsRow ic ss st) (hsl : st.length ≤ 17592186044415) (n : Int) : PCalls Tryd.prog 30 [.agg [.int .i64 t, s], ss, .int .i64 n] (.tup [(diffE t l st n).1.tv, .int .i64 (diffE t l st n).2]) := by
  have rI := rowI_is hl
  have rS := rowI_is hs
  unfold rowL at rI rS
  refine pcalls_by Tryd.mixes spJ1_ok (fn := Tryd.f30) Tryd.func30 rfl (by kernel_rfl) (by show 3 ≤ _; decide) ?_
  unfold diffE
  cases h1 : headOk t l with
  | false => simp (decide := true) (maxSteps := 4000000) only [go_sem, Nat.reduceAdd, Nat.reduceSub, Nat.reduceMul, Nat.reduceDiv, Nat.reduceMod, Nat.reduceLT, Nat.reduceLeDiff, Nat.reduceEqDiff, Nat.reduceBEq, Nat.reduceBNe, Nat.reduceGT, Int.reduceAdd, Int.reduceSub, Int.reduceMul, Int.reduceNeg, Int.reduceLT, Int.reduceLE, Int.reduceEq, Int.reduceNe, Int.reduceBEq, Int.reduceBNe, Int.reduceToNat, Int.reduceGT, Int.reduceGE, ↓reduceIte, decide_true, decide_false, eq_self, Nat.mul_one, Nat.zero_mul, Nat.one_mul, Int.le_refl, Nat.le_refl, Int.cast_ofNat_Int, Tryd.f30, rI, hll, h1, Df.tv, Df.cs, Pl.cs, Tn.cs]
  | true =>
    cases h2 : inB n 1 2000 with
    | false => simp (decide := true) (maxSteps := 4000000) only [go_sem, Nat.reduceAdd, Nat.reduceSub, Nat.reduceMul, Nat.reduceDiv, Nat.reduceMod, Nat.reduceLT, Nat.reduceLeDiff, Nat.reduceEqDiff, Nat.reduceBEq, Nat.reduceBNe, Nat.reduceGT, Int.reduceAdd, Int.reduceSub, Int.reduceMul, Int.reduceNeg, Int.reduceLT, Int.reduceLE, Int.reduceEq, Int.reduceNe, Int.reduceBEq, Int.reduceBNe, Int.reduceToNat, Int.reduceGT, Int.reduceGE, ↓reduceIte, decide_true, decide_false, eq_self, Nat.mul_one, Nat.zero_mul, Nat.one_mul, Int.le_refl, Nat.le_refl, Int.cast_ofNat_Int, Tryd.f30, rI, hll, h1, h2, Df.tv, Df.cs, Pl.cs, Tn.cs]
    | true =>
      cases h3 : stockOk1 st with
      | false => simp (decide := true) (maxSteps := 4000000) only [go_sem, Nat.reduceAdd, Nat.reduceSub, Nat.reduceMul, Nat.reduceDiv, Nat.reduceMod, Nat.reduceLT, Nat.reduceLeDiff, Nat.reduceEqDiff, Nat.reduceBEq, Nat.reduceBNe, Nat.reduceGT, Int.reduceAdd, Int.reduceSub, Int.reduceMul, Int.reduceNeg, Int.reduceLT, Int.reduceLE, Int.reduceEq, Int.reduceNe, Int.reduceBEq, Int.reduceBNe, Int.reduceToNat, Int.reduceGT, Int.reduceGE, ↓reduceIte, decide_true, decide_false, eq_self, Nat.mul_one, Nat.zero_mul, Nat.one_mul, Int.le_refl, Nat.le_refl, Int.cast_ofNat_Int, Tryd.f30, rI, hll, h1, h2, rS, hsl, h3, Df.tv, Df.cs, Pl.cs, Tn.cs]
      | true =>
        have hh := headOk_iff.1 h1
        have hn := inB_iff.1 h2
        have hk := stockOk1_iff.1 h3
        obtain ⟨f, rfl⟩ := hl.ne (by omega)
        obtain ⟨fs, rfl⟩ := hs.ne (by omega)
        rw [ic_ints] at rI rS ⊢
        rw [ic_ints]
        simp only [unI_eq, if_true] at rI rS
        have hstk := h3
        simp (decide := true) (maxSteps := 4000000) only [go_sem, Nat.reduceAdd, Nat.reduceSub, Nat.reduceMul, Nat.reduceDiv, Nat.reduceMod, Nat.reduceLT, Nat.reduceLeDiff, Nat.reduceEqDiff, Nat.reduceBEq, Nat.reduceBNe, Nat.reduceGT, Int.reduceAdd, Int.reduceSub, Int.reduceMul, Int.reduceNeg, Int.reduceLT, Int.reduceLE, Int.reduceEq, Int.reduceNe, Int.reduceBEq, Int.reduceBNe, Int.reduceToNat, Int.reduceGT, Int.reduceGE, ↓reduceIte, decide_true, decide_false, eq_self, Nat.mul_one, Nat.zero_mul, Nat.one_mul, Int.le_refl, Nat.le_refl, Int.cast_ofNat_Int, Tryd.f30, rI, hll, h1, h2, rS, hsl, h3]
        refine pwpC_loopU (A := { i : Nat // i ≤ 20 ∧ fsTo (fun i : Nat => diff2 t l st n ((i : Int) + 1)) i = none }) [1, 2, 3, 6, 7, 8] (fun i => [(9, .t (.int .i64 ((i.1 : Int) + 1)))]) (fun _ => []) (fun i => 20 - i.1) ⟨0, by omega, rfl⟩ (by decide) (fun _ => by rfl) ?_ fun Q1 hQ1 ⟨i, hi, hno⟩ I1 hI1 => ?_
        · simp (decide := true) (maxSteps := 4000000) only [go_sem, Nat.reduceAdd, Nat.reduceSub, Nat.reduceMul, Nat.reduceDiv, Nat.reduceMod, Nat.reduceLT, Nat.reduceLeDiff, Nat.reduceEqDiff, Nat.reduceBEq, Nat.reduceBNe, Nat.reduceGT, Int.reduceAdd, Int.reduceSub, Int.reduceMul, Int.reduceNeg, Int.reduceLT, Int.reduceLE, Int.reduceEq, Int.reduceNe, Int.reduceBEq, Int.reduceBNe, Int.reduceToNat, Int.reduceGT, Int.reduceGE, ↓reduceIte, decide_true, decide_false, eq_self, Nat.mul_one, Nat.zero_mul, Nat.one_mul, Int.le_refl, Nat.le_refl, Int.cast_ofNat_Int]
          first | done | rfl
        · obtain ⟨A, hA⟩ : ∃ A, (i : Int) + 1 = A := ⟨_, rfl⟩
          rw [hA]
          by_cases hlt : A ≤ 20
          · have hi1 : IntKind.i64.wrap (A + 1) = ((i + 1 : Nat) : Int) + 1 := by rw [wrap_in (by omega) (by omega)]; omega
            have mta := mulB (a := t) (b := A) (A := 400) (B := 20) (by omega) (by omega) (by omega) (by omega)
            have wta : IntKind.i64.wrap (t * A) = t * A := wrap_in (by omega) (by omega)
            have hpT : 0 ≤ t * A ∧ t * A ≤ 100000 := by omega
            have wm1 : IntKind.i64.wrap (n - A) = n - A := wrap_in (by omega) (by omega)
            have hd2 := diff2_fs t l st n A
            have hno2 := hno
            simp (decide := true) (maxSteps := 4000000) only [go_sem, Nat.reduceAdd, Nat.reduceSub, Nat.reduceMul, Nat.reduceDiv, Nat.reduceMod, Nat.reduceLT, Nat.reduceLeDiff, Nat.reduceEqDiff, Nat.reduceBEq, Nat.reduceBNe, Nat.reduceGT, Int.reduceAdd, Int.reduceSub, Int.reduceMul, Int.reduceNeg, Int.reduceLT, Int.reduceLE, Int.reduceEq, Int.reduceNe, Int.reduceBEq, Int.reduceBNe, Int.reduceToNat, Int.reduceGT, Int.reduceGE, ↓reduceIte, decide_true, decide_false, eq_self, Nat.mul_one, Nat.zero_mul, Nat.one_mul, Int.le_refl, Nat.le_refl, Int.cast_ofNat_Int, hlt]
            refine pwpC_loopU (A := { k : Nat // k ≤ 2 ∧ fsTo (fun s : Nat => diff1 t l st n A (n - A + 2 * (s : Int) * A)) k = none }) [1, 2, 3, 6, 7, 8, 9] (fun k => [(10, .t (.int .i64 k.1))]) (fun _ => []) (fun k => 2 - k.1) ⟨0, by omega, rfl⟩ (by decide) (fun _ => by rfl) ?_ fun Q2 hQ2 ⟨k, hk2, hnk⟩ I2 hI2 => ?_
            · simp (decide := true) (maxSteps := 4000000) only [go_sem, Nat.reduceAdd, Nat.reduceSub, Nat.reduceMul, Nat.reduceDiv, Nat.reduceMod, Nat.reduceLT, Nat.reduceLeDiff, Nat.reduceEqDiff, Nat.reduceBEq, Nat.reduceBNe, Nat.reduceGT, Int.reduceAdd, Int.reduceSub, Int.reduceMul, Int.reduceNeg, Int.reduceLT, Int.reduceLE, Int.reduceEq, Int.reduceNe, Int.reduceBEq, Int.reduceBNe, Int.reduceToNat, Int.reduceGT, Int.reduceGE, ↓reduceIte, decide_true, decide_false, eq_self, Nat.mul_one, Nat.zero_mul, Nat.one_mul, Int.le_refl, Nat.le_refl, Int.cast_ofNat_Int]
            · by_cases hlk : (k : Int) < 2
              · have hk1 : IntKind.i64.wrap ((k : Int) + 1) = ((k + 1 : Nat) : Int) := by rw [wrap_in (by omega) (by omega)]; omega
                have wk2 : IntKind.i64.wrap (2 * (k : Int)) = 2 * (k : Int) := wrap_in (by omega) (by omega)
                have mka := mulB (a := 2 * (k : Int)) (b := A) (A := 2) (B := 20) (by omega) (by omega) (by omega) (by omega)
                have wka : IntKind.i64.wrap (2 * (k : Int) * A) = 2 * (k : Int) * A := wrap_in (by omega) (by omega)
                obtain ⟨M, hM⟩ : ∃ M, n - A + 2 * (k : Int) * A = M := ⟨_, rfl⟩
                have wM : IntKind.i64.wrap (n - A + 2 * (k : Int) * A) = M := by rw [← hM]; exact wrap_in (by omega) (by omega)
                have hnext : ∀ h : diff1 t l st n A M = none, fsTo (fun s : Nat => diff1 t l st n A (n - A + 2 * (s : Int) * A)) (k + 1) = none := fun h => fsTo_next hnk (by rw [hM]; exact h)
                by_cases hM1 : M < 1
                · have hdn : diff1 t l st n A M = none := by unfold diff1; rw [if_pos]; rw [Bool.eq_false_iff]; intro h; have := inB_iff.1 h; omega
                  simp (decide := true) (maxSteps := 4000000) only [go_sem, Nat.reduceAdd, Nat.reduceSub, Nat.reduceMul, Nat.reduceDiv, Nat.reduceMod, Nat.reduceLT, Nat.reduceLeDiff, Nat.reduceEqDiff, Nat.reduceBEq, Nat.reduceBNe, Nat.reduceGT, Int.reduceAdd, Int.reduceSub, Int.reduceMul, Int.reduceNeg, Int.reduceLT, Int.reduceLE, Int.reduceEq, Int.reduceNe, Int.reduceBEq, Int.reduceBNe, Int.reduceToNat, Int.reduceGT, Int.reduceGE, ↓reduceIte, decide_true, decide_false, eq_self, Nat.mul_one, Nat.zero_mul, Nat.one_mul, Int.le_refl, Nat.le_refl, Int.cast_ofNat_Int, hlk, wm1, wk2, wka, wM, hM1]
                  refine hI2 _ ⟨k + 1, by omega, hnext hdn⟩ (by simp only; omega) ?_
                  simp (decide := true) (maxSteps := 4000000) only [go_sem, Nat.reduceAdd, Nat.reduceSub, Nat.reduceMul, Nat.reduceDiv, Nat.reduceMod, Nat.reduceLT, Nat.reduceLeDiff, Nat.reduceEqDiff, Nat.reduceBEq, Nat.reduceBNe, Nat.reduceGT, Int.reduceAdd, Int.reduceSub, Int.reduceMul, Int.reduceNeg, Int.reduceLT, Int.reduceLE, Int.reduceEq, Int.reduceNe, Int.reduceBEq, Int.reduceBNe, Int.reduceToNat, Int.reduceGT, Int.reduceGE, ↓reduceIte, decide_true, decide_false, eq_self, Nat.mul_one, Nat.zero_mul, Nat.one_mul, Int.le_refl, Nat.le_refl, Int.cast_ofNat_Int, hk1]
                · have hmB : inB M 1 20000 = true := inB_iff.2 (by omega)
                  have cM : 1 ≤ M ∧ M ≤ 100000 := by omega
                  have hmT : 0 ≤ M ∧ M ≤ 100000 := by omega
                  cases hpl : plansP t l M with
                  | nil =>
                    have hdn : diff1 t l st n A M = none := by unfold diff1; rw [if_neg (by rw [hmB]; simp), hpl]
                    have er : rowG Pl.cs [] = .nilSl := rfl
                    simp (decide := true) (maxSteps := 4000000) only [go_sem, Nat.reduceAdd, Nat.reduceSub, Nat.reduceMul, Nat.reduceDiv, Nat.reduceMod, Nat.reduceLT, Nat.reduceLeDiff, Nat.reduceEqDiff, Nat.reduceBEq, Nat.reduceBNe, Nat.reduceGT, Int.reduceAdd, Int.reduceSub, Int.reduceMul, Int.reduceNeg, Int.reduceLT, Int.reduceLE, Int.reduceEq, Int.reduceNe, Int.reduceBEq, Int.reduceBNe, Int.reduceToNat, Int.reduceGT, Int.reduceGE, ↓reduceIte, decide_true, decide_false, eq_self, Nat.mul_one, Nat.zero_mul, Nat.one_mul, Int.le_refl, Nat.le_refl, Int.cast_ofNat_Int, hlk, wm1, wk2, wka, wM, hM1, unI_eq, h1, cM, hpl, er, wta, hstk, hpT, hmT, Tn.tv, Tn.cs]
                    refine hI2 _ ⟨k + 1, by omega, hnext hdn⟩ (by simp only; omega) ?_
                    simp (decide := true) (maxSteps := 4000000) only [go_sem, Nat.reduceAdd, Nat.reduceSub, Nat.reduceMul, Nat.reduceDiv, Nat.reduceMod, Nat.reduceLT, Nat.reduceLeDiff, Nat.reduceEqDiff, Nat.reduceBEq, Nat.reduceBNe, Nat.reduceGT, Int.reduceAdd, Int.reduceSub, Int.reduceMul, Int.reduceNeg, Int.reduceLT, Int.reduceLE, Int.reduceEq, Int.reduceNe, Int.reduceBEq, Int.reduceBNe, Int.reduceToNat, Int.reduceGT, Int.reduceGE, ↓reduceIte, decide_true, decide_false, eq_self, Nat.mul_one, Nat.zero_mul, Nat.one_mul, Int.le_refl, Nat.le_refl, Int.cast_ofNat_Int, hk1]
                  | cons pl pls =>
                    have er : rowG Pl.cs (pl :: pls) = .sl ((pl :: pls).flatMap Pl.cs) (pl :: pls).length false := by unfold rowG; rw [if_neg (by simp)]
                    have hp0 : (((pl :: pls).length : Nat) : Int) > 0 := by simp only [List.length_cons]; omega
                    have d0 := flat_at Pl.cs (n := 3) (fun _ => rfl) (show (pl :: pls)[0]? = some pl from rfl)
                    obtain ⟨L, hL⟩ : ∃ L, (pl :: pls).length = L := ⟨_, rfl⟩
                    obtain ⟨cs, hcs⟩ : ∃ cs, (pl :: pls).flatMap Pl.cs = cs := ⟨_, rfl⟩
                    rw [hcs] at er d0
                    rw [hL] at er hp0
                    cases htr : trainP st (t * A) M with
                    | none =>
                      have hdn : diff1 t l st n A M = none := by unfold diff1; rw [if_neg (by rw [hmB]; simp), hpl]; simp only [htr]
                      simp (decide := true) (maxSteps := 4000000) only [go_sem, Nat.reduceAdd, Nat.reduceSub, Nat.reduceMul, Nat.reduceDiv, Nat.reduceMod, Nat.reduceLT, Nat.reduceLeDiff, Nat.reduceEqDiff, Nat.reduceBEq, Nat.reduceBNe, Nat.reduceGT, Int.reduceAdd, Int.reduceSub, Int.reduceMul, Int.reduceNeg, Int.reduceLT, Int.reduceLE, Int.reduceEq, Int.reduceNe, Int.reduceBEq, Int.reduceBNe, Int.reduceToNat, Int.reduceGT, Int.reduceGE, ↓reduceIte, decide_true, decide_false, eq_self, Nat.mul_one, Nat.zero_mul, Nat.one_mul, Int.le_refl, Nat.le_refl, Int.cast_ofNat_Int, hlk, wm1, wk2, wka, wM, hM1, unI_eq, h1, cM, hpl, er, hp0, wta, hstk, hpT, hmT, htr, Option.getD_none, Option.isSome_none, tn0, Tn.tv, Tn.cs]
                      refine hI2 _ ⟨k + 1, by omega, hnext hdn⟩ (by simp only; omega) ?_
                      simp (decide := true) (maxSteps := 4000000) only [go_sem, Nat.reduceAdd, Nat.reduceSub, Nat.reduceMul, Nat.reduceDiv, Nat.reduceMod, Nat.reduceLT, Nat.reduceLeDiff, Nat.reduceEqDiff, Nat.reduceBEq, Nat.reduceBNe, Nat.reduceGT, Int.reduceAdd, Int.reduceSub, Int.reduceMul, Int.reduceNeg, Int.reduceLT, Int.reduceLE, Int.reduceEq, Int.reduceNe, Int.reduceBEq, Int.reduceBNe, Int.reduceToNat, Int.reduceGT, Int.reduceGE, ↓reduceIte, decide_true, decide_false, eq_self, Nat.mul_one, Nat.zero_mul, Nat.one_mul, Int.le_refl, Nat.le_refl, Int.cast_ofNat_Int, hk1]
                    | some tr =>
                      have hdn : diff1 t l st n A M = some ⟨M, pl, tr, decide (M > n)⟩ := by unfold diff1; rw [if_neg (by rw [hmB]; simp), hpl]; simp only [htr]
                      have hres : diffP t l st n = some ⟨M, pl, tr, decide (M > n)⟩ := fsTo_hit hno (show i < 20 by omega) (by show diff2 t l st n ((i : Int) + 1) = _; rw [hA, diff2_fs]; exact fsTo_hit hnk (show k < 2 by omega) (by rw [hM]; exact hdn))
                      simp (decide := true) (maxSteps := 4000000) only [go_sem, Nat.reduceAdd, Nat.reduceSub, Nat.reduceMul, Nat.reduceDiv, Nat.reduceMod, Nat.reduceLT, Nat.reduceLeDiff, Nat.reduceEqDiff, Nat.reduceBEq, Nat.reduceBNe, Nat.reduceGT, Int.reduceAdd, Int.reduceSub, Int.reduceMul, Int.reduceNeg, Int.reduceLT, Int.reduceLE, Int.reduceEq, Int.reduceNe, Int.reduceBEq, Int.reduceBNe, Int.reduceToNat, Int.reduceGT, Int.reduceGE, ↓reduceIte, decide_true, decide_false, eq_self, Nat.mul_one, Nat.zero_mul, Nat.one_mul, Int.le_refl, Nat.le_refl, Int.cast_ofNat_Int, hlk, wm1, wk2, wka, wM, hM1, unI_eq, h1, cM, hpl, er, hp0, wta, hstk, hpT, hmT, htr, Option.getD_some, Option.isSome_some, Tn.tv, Tn.cs, d0, Pl.cs]
                      refine hQ2 _ _ ?_
                      simp (decide := true) (maxSteps := 4000000) only [go_sem, Nat.reduceAdd, Nat.reduceSub, Nat.reduceMul, Nat.reduceDiv, Nat.reduceMod, Nat.reduceLT, Nat.reduceLeDiff, Nat.reduceEqDiff, Nat.reduceBEq, Nat.reduceBNe, Nat.reduceGT, Int.reduceAdd, Int.reduceSub, Int.reduceMul, Int.reduceNeg, Int.reduceLT, Int.reduceLE, Int.reduceEq, Int.reduceNe, Int.reduceBEq, Int.reduceBNe, Int.reduceToNat, Int.reduceGT, Int.reduceGE, ↓reduceIte, decide_true, decide_false, eq_self, Nat.mul_one, Nat.zero_mul, Nat.one_mul, Int.le_refl, Nat.le_refl, Int.cast_ofNat_Int]
                      refine hQ1 _ _ ?_
                      simp (decide := true) (maxSteps := 4000000) only [go_sem, Nat.reduceAdd, Nat.reduceSub, Nat.reduceMul, Nat.reduceDiv, Nat.reduceMod, Nat.reduceLT, Nat.reduceLeDiff, Nat.reduceEqDiff, Nat.reduceBEq, Nat.reduceBNe, Nat.reduceGT, Int.reduceAdd, Int.reduceSub, Int.reduceMul, Int.reduceNeg, Int.reduceLT, Int.reduceLE, Int.reduceEq, Int.reduceNe, Int.reduceBEq, Int.reduceBNe, Int.reduceToNat, Int.reduceGT, Int.reduceGE, ↓reduceIte, decide_true, decide_false, eq_self, Nat.mul_one, Nat.zero_mul, Nat.one_mul, Int.le_refl, Nat.le_refl, Int.cast_ofNat_Int, hres, Df.tv, Df.cs, Pl.cs, Tn.cs]
              · have hke : k = 2 := by omega
                subst hke
                have hdn : diff2 t l st n ((i : Int) + 1) = none := by rw [hA, diff2_fs]; exact hnk
                simp (decide := true) (maxSteps := 4000000) only [go_sem, Nat.reduceAdd, Nat.reduceSub, Nat.reduceMul, Nat.reduceDiv, Nat.reduceMod, Nat.reduceLT, Nat.reduceLeDiff, Nat.reduceEqDiff, Nat.reduceBEq, Nat.reduceBNe, Nat.reduceGT, Int.reduceAdd, Int.reduceSub, Int.reduceMul, Int.reduceNeg, Int.reduceLT, Int.reduceLE, Int.reduceEq, Int.reduceNe, Int.reduceBEq, Int.reduceBNe, Int.reduceToNat, Int.reduceGT, Int.reduceGE, ↓reduceIte, decide_true, decide_false, eq_self, Nat.mul_one, Nat.zero_mul, Nat.one_mul, Int.le_refl, Nat.le_refl, Int.cast_ofNat_Int, hlk]
                refine hQ2 _ _ ?_
                simp (decide := true) (maxSteps := 4000000) only [go_sem, Nat.reduceAdd, Nat.reduceSub, Nat.reduceMul, Nat.reduceDiv, Nat.reduceMod, Nat.reduceLT, Nat.reduceLeDiff, Nat.reduceEqDiff, Nat.reduceBEq, Nat.reduceBNe, Nat.reduceGT, Int.reduceAdd, Int.reduceSub, Int.reduceMul, Int.reduceNeg, Int.reduceLT, Int.reduceLE, Int.reduceEq, Int.reduceNe, Int.reduceBEq, Int.reduceBNe, Int.reduceToNat, Int.reduceGT, Int.reduceGE, ↓reduceIte, decide_true, decide_false, eq_self, Nat.mul_one, Nat.zero_mul, Nat.one_mul, Int.le_refl, Nat.le_refl, Int.cast_ofNat_Int]
                refine hI1 _ ⟨i + 1, by omega, fsTo_next hno hdn⟩ (by simp only; omega) ?_
                simp (decide := true) (maxSteps := 4000000) only [go_sem, Nat.reduceAdd, Nat.reduceSub, Nat.reduceMul, Nat.reduceDiv, Nat.reduceMod, Nat.reduceLT, Nat.reduceLeDiff, Nat.reduceEqDiff, Nat.reduceBEq, Nat.reduceBNe, Nat.reduceGT, Int.reduceAdd, Int.reduceSub, Int.reduceMul, Int.reduceNeg, Int.reduceLT, Int.reduceLE, Int.reduceEq, Int.reduceNe, Int.reduceBEq, Int.reduceBNe, Int.reduceToNat, Int.reduceGT, Int.reduceGE, ↓reduceIte, decide_true, decide_false, eq_self, Nat.mul_one, Nat.zero_mul, Nat.one_mul, Int.le_refl, Nat.le_refl, Int.cast_ofNat_Int, hi1]
          · have hie : i = 20 := by omega
            subst hie
            have hres : diffP t l st n = none := hno
            simp (decide := true) (maxSteps := 4000000) only [go_sem, Nat.reduceAdd, Nat.reduceSub, Nat.reduceMul, Nat.reduceDiv, Nat.reduceMod, Nat.reduceLT, Nat.reduceLeDiff, Nat.reduceEqDiff, Nat.reduceBEq, Nat.reduceBNe, Nat.reduceGT, Int.reduceAdd, Int.reduceSub, Int.reduceMul, Int.reduceNeg, Int.reduceLT, Int.reduceLE, Int.reduceEq, Int.reduceNe, Int.reduceBEq, Int.reduceBNe, Int.reduceToNat, Int.reduceGT, Int.reduceGE, ↓reduceIte, decide_true, decide_false, eq_self, Nat.mul_one, Nat.zero_mul, Nat.one_mul, Int.le_refl, Nat.le_refl, Int.cast_ofNat_Int, hlt]
            refine hQ1 _ _ ?_
            simp (decide := true) (maxSteps := 4000000) only [go_sem, Nat.reduceAdd, Nat.reduceSub, Nat.reduceMul, Nat.reduceDiv, Nat.reduceMod, Nat.reduceLT, Nat.reduceLeDiff, Nat.reduceEqDiff, Nat.reduceBEq, Nat.reduceBNe, Nat.reduceGT, Int.reduceAdd, Int.reduceSub, Int.reduceMul, Int.reduceNeg, Int.reduceLT, Int.reduceLE, Int.reduceEq, Int.reduceNe, Int.reduceBEq, Int.reduceBNe, Int.reduceToNat, Int.reduceGT, Int.reduceGE, ↓reduceIte, decide_true, decide_false, eq_self, Nat.mul_one, Nat.zero_mul, Nat.one_mul, Int.le_refl, Nat.le_refl, Int.cast_ofNat_Int, hres, Df.tv, Df.cs, Pl.cs, Tn.cs]
end Go.Proofs.YtnoahnbjdapieaaDoor

/- Part Ik. -/
namespace Go.Oc
open Go Go.Pm
set_option maxRecDepth 100000
def unP : List TV → Option (List Pl)
  | [] => some []
  | .int .i64 a :: .int .i64 b :: .int .i64 c :: r => (unP r).map (⟨a, b, c⟩ :: ·)
  | _ => none
theorem unP_eq : ∀ l : List Pl, unP (l.flatMap Pl.cs) = some l
  | [] => rfl
  | p :: l => by
    rw [List.flatMap_cons]
    show (unP (l.flatMap Pl.cs)).map _ = _
    rw [unP_eq l]; rfl
theorem unP_some : ∀ {cs : List TV} {l : List Pl}, unP cs = some l → cs = l.flatMap Pl.cs := by
  intro cs
  fun_induction unP cs with
  | case1 => intro l h; cases h; rfl
  | case2 a b c r ih =>
    intro l h
    cases hr : unP r with
    | none => rw [hr] at h; cases h
    | some m =>
      rw [hr] at h
      cases h
      rw [List.flatMap_cons, ← ih hr]; rfl
  | case3 => intro l h; cases h
theorem exP : plansE 40 [15, 18, 21] 12 = ([⟨0, 3, 5⟩, ⟨1, 3, 6⟩, ⟨2, 3, 7⟩], 0) := by decide +kernel
theorem exC : compE 40 [15, 18, 21] 90 = (⟨0, 1, 5, 2⟩, 0) := by decide +kernel
theorem exL : cutE 40 [15, 18, 21] 0 7 = ([0, 86, 171, 257, 343, 429, 514], 92572, 0) := by decide +kernel
theorem exB : bestE 40 [15, 18, 21] 11 = (2, 70130, 0) := by decide +kernel
theorem exT : trainE [20, 30, 40, 60] 1 4 = (⟨0, 2, 1, 3⟩, 0) := by decide +kernel
theorem exD : diffE 40 [15, 18, 21] [20, 30, 40, 60] 11 = (⟨10, ⟨0, 4, 0⟩, ⟨2, 0, 3, 1⟩, false⟩, 0) := by decide +kernel
end Go.Oc
namespace Go.Proofs.YtnoahnbjdapieaaDoor
open Go.RowKit Go.Pm Go.Oc
set_option maxRecDepth 100000
set_option linter.unusedVariables false
set_option maxHeartbeats 4000000

noncomputable def xPlans : List TV → Option TV
  | [.agg [.int .i64 t, s], .int .i64 n] => match rowL unI s with
    | some l => if l.length ≤ 17592186044415 then some (.tup [rowF Pl.cs (plansE t l n).1, .int .i64 (plansE t l n).2]) else none
    | none => none
  | _ => none
theorem xPlans_ok : ∀ xs r, xPlans xs = some r → PCalls Tryd.prog 14 xs r := by
  intro xs r h
  unfold xPlans at h
  split at h
  · split at h
    · rename_i l hl
      have hl := rowL_some (un := unI) rfl (@unI_some) hl
      split at h
      · rename_i hc; cases h; exact iPlans_c _ hl hc _
      · cases h
    · cases h
  · cases h
attribute [go_sem] xPlans
noncomputable def xComp : List TV → Option TV
  | [.agg [.int .i64 t, s], .int .i64 n] => match rowL unI s with
    | some l => if l.length ≤ 17592186044415 then some (.tup [(compE t l n).1.tv, .int .i64 (compE t l n).2]) else none
    | none => none
  | _ => none
theorem xComp_ok : ∀ xs r, xComp xs = some r → PCalls Tryd.prog 19 xs r := by
  intro xs r h
  unfold xComp at h
  split at h
  · split at h
    · rename_i l hl
      have hl := rowL_some (un := unI) rfl (@unI_some) hl
      split at h
      · rename_i hc; cases h; exact iCompound_c _ hl hc _
      · cases h
    · cases h
  · cases h
attribute [go_sem] xComp
noncomputable def xCut : List TV → Option TV
  | [.agg [.int .i64 t, s], .int .i64 c, .int .i64 n] => match rowL unI s with
    | some l => if l.length ≤ 17592186044415 then some (.tup [rowG ic (cutE t l c n).1, .int .i64 (cutE t l c n).2.1, .int .i64 (cutE t l c n).2.2]) else none
    | none => none
  | _ => none
theorem xCut_ok : ∀ xs r, xCut xs = some r → PCalls Tryd.prog 22 xs r := by
  intro xs r h
  unfold xCut at h
  split at h
  · split at h
    · rename_i l hl
      have hl := rowL_some (un := unI) rfl (@unI_some) hl
      split at h
      · rename_i hc; cases h; exact iCut_c _ hl hc _ _
      · cases h
    · cases h
  · cases h
attribute [go_sem] xCut
noncomputable def xBest : List TV → Option TV
  | [.agg [.int .i64 t, s], .int .i64 n] => match rowL unI s with
    | some l => if l.length ≤ 17592186044415 then some (.tup [.int .i64 (bestE t l n).1, .int .i64 (bestE t l n).2.1, .int .i64 (bestE t l n).2.2]) else none
    | none => none
  | _ => none
theorem xBest_ok : ∀ xs r, xBest xs = some r → PCalls Tryd.prog 25 xs r := by
  intro xs r h
  unfold xBest at h
  split at h
  · split at h
    · rename_i l hl
      have hl := rowL_some (un := unI) rfl (@unI_some) hl
      split at h
      · rename_i hc; cases h; exact iBestE_c _ hl hc _
      · cases h
    · cases h
  · cases h
attribute [go_sem] xBest
noncomputable def xTrain : List TV → Option TV
  | [s, .int .i64 p, .int .i64 q] => match rowL unI s with
    | some l => if l.length ≤ 17592186044415 then some (.tup [(trainE l p q).1.tv, .int .i64 (trainE l p q).2]) else none
    | none => none
  | _ => none
theorem xTrain_ok : ∀ xs r, xTrain xs = some r → PCalls Tryd.prog 27 xs r := by
  intro xs r h
  unfold xTrain at h
  split at h
  · split at h
    · rename_i l hl
      have hl := rowL_some (un := unI) rfl (@unI_some) hl
      split at h
      · rename_i hc; cases h; exact iTrainE_c hl hc _ _
      · cases h
    · cases h
  · cases h
attribute [go_sem] xTrain
noncomputable def xDiff : List TV → Option TV
  | [.agg [.int .i64 t, s], u, .int .i64 n] => match rowL unI s, rowL unI u with
    | some l, some st => if l.length ≤ 17592186044415 ∧ st.length ≤ 17592186044415 then some (.tup [(diffE t l st n).1.tv, .int .i64 (diffE t l st n).2]) else none
    | _, _ => none
  | _ => none
theorem xDiff_ok : ∀ xs r, xDiff xs = some r → PCalls Tryd.prog 29 xs r := by
  intro xs r h
  unfold xDiff at h
  split at h
  · split at h
    · rename_i a b ha hb
      split at h
      · rename_i hc; cases h
        exact iDiff_c _ (rowL_some (un := unI) rfl (@unI_some) ha) hc.1 (rowL_some (un := unI) rfl (@unI_some) hb) hc.2 _
      · cases h
    · cases h
  · cases h
noncomputable def xSameP : List TV → Option TV
  | [s, u] => match rowL unP s, rowL unP u with
    | some a, some b => if a.length ≤ 9223372036854775806 then some (.bool (decide (a = b))) else none
    | _, _ => none
  | _ => none
theorem xSameP_ok : ∀ xs r, xSameP xs = some r → PCalls Tryd.prog 16 xs r := by
  intro xs r h
  unfold xSameP at h
  split at h
  · split at h
    · rename_i a b ha hb
      split at h
      · rename_i hc; cases h
        exact rSamePlans_c (rowL_some (un := unP) rfl (@unP_some) ha) (rowL_some (un := unP) rfl (@unP_some) hb) hc
      · cases h
    · cases h
  · cases h
attribute [go_sem] xDiff xSameP
noncomputable def spK1 : Pm.Spec := (((((((spB3.one 14 xPlans).one 19 xComp).one 22 xCut).one 25 xBest).one 27 xTrain).one 29 xDiff).one 16 xSameP).one 17 ixCheck
@[go_sem] theorem spK1_p (f : FuncId) (xs : List TV) : spK1.p f xs = Pm.Spec.p ((((((((spB3.one 14 xPlans).one 19 xComp).one 22 xCut).one 25 xBest).one 27 xTrain).one 29 xDiff).one 16 xSameP).one 17 ixCheck) f xs := rfl
@[go_sem] theorem spK1_h (f : FuncId) (ps : List PV) (hl : List PO) : spK1.h f ps hl = Pm.Spec.h ((((((((spB3.one 14 xPlans).one 19 xComp).one 22 xCut).one 25 xBest).one 27 xTrain).one 29 xDiff).one 16 xSameP).one 17 ixCheck) f ps hl := rfl
@[go_sem] theorem spK1_fz (f : FuncId) : spK1.fz f = Pm.Spec.fz ((((((((spB3.one 14 xPlans).one 19 xComp).one 22 xCut).one 25 xBest).one 27 xTrain).one 29 xDiff).one 16 xSameP).one 17 ixCheck) f := rfl
@[go_sem] theorem spK1_fr (f : FuncId) : spK1.fr f = Pm.Spec.fr ((((((((spB3.one 14 xPlans).one 19 xComp).one 22 xCut).one 25 xBest).one 27 xTrain).one 29 xDiff).one 16 xSameP).one 17 ixCheck) f := rfl
@[go_sem] theorem spK1_mu (t : TypeId) : spK1.mu t = Pm.Spec.mu ((((((((spB3.one 14 xPlans).one 19 xComp).one 22 xCut).one 25 xBest).one 27 xTrain).one 29 xDiff).one 16 xSameP).one 17 ixCheck) t := rfl
theorem spK1_ok : SpecOk Tryd.prog spK1 := Spec.one_ok ixCheck_ok (Spec.one_ok xSameP_ok (Spec.one_ok xDiff_ok (Spec.one_ok xTrain_ok (Spec.one_ok xBest_ok (Spec.one_ok xCut_ok (Spec.one_ok xComp_ok (Spec.one_ok xPlans_ok spB3_ok)))))))
theorem lHead_c : PCalls Tryd.prog 40 [] (.agg [.int .i64 40, .sl [.int .i64 15, .int .i64 18, .int .i64 21] 3 true]) := by
  refine pcalls_by Tryd.mixes noSpec_ok (fn := Tryd.f40) Tryd.func40 rfl (by kernel_rfl) (by show 0 ≤ _; decide) ?_
  simp (decide := true) (maxSteps := 4000000) only [go_sem, Nat.reduceAdd, Nat.reduceSub, Nat.reduceMul, Nat.reduceDiv, Nat.reduceMod, Nat.reduceLT, Nat.reduceLeDiff, Nat.reduceEqDiff, Nat.reduceBEq, Nat.reduceBNe, Nat.reduceGT, Int.reduceAdd, Int.reduceSub, Int.reduceMul, Int.reduceNeg, Int.reduceLT, Int.reduceLE, Int.reduceEq, Int.reduceNe, Int.reduceBEq, Int.reduceBNe, Int.reduceToNat, Int.reduceGT, Int.reduceGE, ↓reduceIte, decide_true, decide_false, eq_self, Nat.mul_one, Nat.zero_mul, Nat.one_mul, Int.le_refl, Nat.le_refl, Int.cast_ofNat_Int, Tryd.f40]
noncomputable def xHead : List TV → Option TV
  | [] => some (.agg [.int .i64 40, .sl [.int .i64 15, .int .i64 18, .int .i64 21] 3 true])
  | _ => none
theorem xHead_ok : ∀ xs r, xHead xs = some r → PCalls Tryd.prog 40 xs r := by
  intro xs r h
  unfold xHead at h
  split at h
  · cases h; exact lHead_c
  · cases h
attribute [go_sem] xHead
theorem lStock_c : PCalls Tryd.prog 41 [] (.sl [.int .i64 20, .int .i64 30, .int .i64 40, .int .i64 60] 4 true) := by
  refine pcalls_by Tryd.mixes noSpec_ok (fn := Tryd.f41) Tryd.func41 rfl (by kernel_rfl) (by show 0 ≤ _; decide) ?_
  simp (decide := true) (maxSteps := 4000000) only [go_sem, Nat.reduceAdd, Nat.reduceSub, Nat.reduceMul, Nat.reduceDiv, Nat.reduceMod, Nat.reduceLT, Nat.reduceLeDiff, Nat.reduceEqDiff, Nat.reduceBEq, Nat.reduceBNe, Nat.reduceGT, Int.reduceAdd, Int.reduceSub, Int.reduceMul, Int.reduceNeg, Int.reduceLT, Int.reduceLE, Int.reduceEq, Int.reduceNe, Int.reduceBEq, Int.reduceBNe, Int.reduceToNat, Int.reduceGT, Int.reduceGE, ↓reduceIte, decide_true, decide_false, eq_self, Nat.mul_one, Nat.zero_mul, Nat.one_mul, Int.le_refl, Nat.le_refl, Int.cast_ofNat_Int, Tryd.f41]
noncomputable def xStock : List TV → Option TV
  | [] => some (.sl [.int .i64 20, .int .i64 30, .int .i64 40, .int .i64 60] 4 true)
  | _ => none
theorem xStock_ok : ∀ xs r, xStock xs = some r → PCalls Tryd.prog 41 xs r := by
  intro xs r h
  unfold xStock at h
  split at h
  · cases h; exact lStock_c
  · cases h
attribute [go_sem] xStock
noncomputable def spK2 : Pm.Spec := (spK1.one 40 xHead).one 41 xStock
@[go_sem] theorem spK2_p (f : FuncId) (xs : List TV) : spK2.p f xs = Pm.Spec.p ((spK1.one 40 xHead).one 41 xStock) f xs := rfl
@[go_sem] theorem spK2_h (f : FuncId) (ps : List PV) (hl : List PO) : spK2.h f ps hl = Pm.Spec.h ((spK1.one 40 xHead).one 41 xStock) f ps hl := rfl
@[go_sem] theorem spK2_fz (f : FuncId) : spK2.fz f = Pm.Spec.fz ((spK1.one 40 xHead).one 41 xStock) f := rfl
@[go_sem] theorem spK2_fr (f : FuncId) : spK2.fr f = Pm.Spec.fr ((spK1.one 40 xHead).one 41 xStock) f := rfl
@[go_sem] theorem spK2_mu (t : TypeId) : spK2.mu t = Pm.Spec.mu ((spK1.one 40 xHead).one 41 xStock) t := rfl
theorem spK2_ok : SpecOk Tryd.prog spK2 := Spec.one_ok xStock_ok (Spec.one_ok xHead_ok spK1_ok)
theorem lWorks_c : PCalls Tryd.prog 21 [] (.bool true) := by
  have e1 : unI [.int .i64 15, .int .i64 18, .int .i64 21] = some [15, 18, 21] := rfl
  have e2 : unI [.int .i64 20, .int .i64 30, .int .i64 40, .int .i64 60] = some [20, 30, 40, 60] := rfl
  have e3 : rowF Pl.cs [⟨0, 3, 5⟩, ⟨1, 3, 6⟩, ⟨2, 3, 7⟩] = .sl [.int .i64 0, .int .i64 3, .int .i64 5, .int .i64 1, .int .i64 3, .int .i64 6, .int .i64 2, .int .i64 3, .int .i64 7] 3 true := rfl
  have e4 : unP [.int .i64 0, .int .i64 3, .int .i64 5, .int .i64 1, .int .i64 3, .int .i64 6, .int .i64 2, .int .i64 3, .int .i64 7] = some [⟨0, 3, 5⟩, ⟨1, 3, 6⟩, ⟨2, 3, 7⟩] := rfl
  have e5 : rowG ic [0, 86, 171, 257, 343, 429, 514] = .sl [.int .i64 0, .int .i64 86, .int .i64 171, .int .i64 257, .int .i64 343, .int .i64 429, .int .i64 514] 7 false := rfl
  have e6 : unI [.int .i64 0, .int .i64 86, .int .i64 171, .int .i64 257, .int .i64 343, .int .i64 429, .int .i64 514] = some [0, 86, 171, 257, 343, 429, 514] := rfl
  refine pcalls_by Tryd.mixes spK2_ok (fn := Tryd.f21) Tryd.func21 rfl (by kernel_rfl) (by show 0 ≤ _; decide) ?_
  simp (decide := true) (maxSteps := 4000000) only [go_sem, Nat.reduceAdd, Nat.reduceSub, Nat.reduceMul, Nat.reduceDiv, Nat.reduceMod, Nat.reduceLT, Nat.reduceLeDiff, Nat.reduceEqDiff, Nat.reduceBEq, Nat.reduceBNe, Nat.reduceGT, Int.reduceAdd, Int.reduceSub, Int.reduceMul, Int.reduceNeg, Int.reduceLT, Int.reduceLE, Int.reduceEq, Int.reduceNe, Int.reduceBEq, Int.reduceBNe, Int.reduceToNat, Int.reduceGT, Int.reduceGE, ↓reduceIte, decide_true, decide_false, eq_self, Nat.mul_one, Nat.zero_mul, Nat.one_mul, Int.le_refl, Nat.le_refl, Int.cast_ofNat_Int, Tryd.f21, e1, e2, exP, exC, exL, exB, exT, exD, e3, e4, e5, e6, List.length_cons, List.length_nil, Pr.tv, Pr.cs, Tn.tv, Tn.cs, Df.tv, Df.cs, Pl.cs]
noncomputable def xWorks : List TV → Option TV
  | [] => some (.bool true)
  | _ => none
theorem xWorks_ok : ∀ xs r, xWorks xs = some r → PCalls Tryd.prog 21 xs r := by
  intro xs r h
  unfold xWorks at h
  split at h
  · cases h; exact lWorks_c
  · cases h
attribute [go_sem] xWorks
noncomputable def spK3 : Pm.Spec := spK1.one 21 xWorks
@[go_sem] theorem spK3_p (f : FuncId) (xs : List TV) : spK3.p f xs = Pm.Spec.p (spK1.one 21 xWorks) f xs := rfl
@[go_sem] theorem spK3_h (f : FuncId) (ps : List PV) (hl : List PO) : spK3.h f ps hl = Pm.Spec.h (spK1.one 21 xWorks) f ps hl := rfl
@[go_sem] theorem spK3_fz (f : FuncId) : spK3.fz f = Pm.Spec.fz (spK1.one 21 xWorks) f := rfl
@[go_sem] theorem spK3_fr (f : FuncId) : spK3.fr f = Pm.Spec.fr (spK1.one 21 xWorks) f := rfl
@[go_sem] theorem spK3_mu (t : TypeId) : spK3.mu t = Pm.Spec.mu (spK1.one 21 xWorks) t := rfl
theorem spK3_ok : SpecOk Tryd.prog spK3 := Spec.one_ok xWorks_ok spK1_ok
end Go.Proofs.YtnoahnbjdapieaaDoor

/- Part Il. -/
namespace Go.Oc
open Go Go.Pm
set_option maxRecDepth 100000
theorem rowL_F {α : Type} {un : List TV → Option (List α)} {c : α → List TV} (hu : ∀ l : List α, un (l.flatMap c) = some l) (l : List α) : rowL un (rowF c l) = some l := rowL_is hu (rowF_is c l)
theorem rowL_G {α : Type} {un : List TV → Option (List α)} {c : α → List TV} (hu : ∀ l : List α, un (l.flatMap c) = some l) (l : List α) : rowL un (rowG c l) = some l := rowL_is hu (rowG_is c l)
theorem plansE_len (t : Int) (l : List Int) (n : Int) : (plansE t l n).1.length ≤ l.length := by
  have h := plansTo_len t l n l.length
  unfold plansE plansP
  split
  · exact Nat.zero_le _
  · split
    · exact Nat.zero_le _
    · split <;> simp <;> omega
theorem cutE_len (t : Int) (l : List Int) (c n : Int) : (cutE t l c n).1.length ≤ 2000 := by
  unfold cutE
  split
  · exact Nat.zero_le _
  · split
    · exact Nat.zero_le _
    · rename_i h
      rw [Bool.not_eq_false, inB_iff] at h
      split <;> simp; omega
end Go.Oc
namespace Go.Proofs.YtnoahnbjdapieaaDoor
open Go.RowKit Go.Pm Go.Oc
set_option maxRecDepth 100000
set_option linter.unusedVariables false
set_option maxHeartbeats 4000000

noncomputable def yPlans : List TV → Option TV
  | [.agg [.int .i64 t, s], .int .i64 n] => match rowL unI s with
    | some l => if l.length ≤ 17592186044415 then some (.tup [rowG Pl.cs (plansE t l n).1, .int .i64 (plansE t l n).2]) else none
    | none => none
  | _ => none
theorem yPlans_ok : ∀ xs r, yPlans xs = some r → PCalls Tryd.prog 15 xs r := by
  intro xs r h
  unfold yPlans at h
  split at h
  · split at h
    · rename_i l hl
      have hl := rowL_some (un := unI) rfl (@unI_some) hl
      split at h
      · rename_i hc; cases h; exact rPlansE_c _ hl hc _
      · cases h
    · cases h
  · cases h
attribute [go_sem] yPlans
noncomputable def yComp : List TV → Option TV
  | [.agg [.int .i64 t, s], .int .i64 n] => match rowL unI s with
    | some l => if l.length ≤ 17592186044415 then some (.tup [(compE t l n).1.tv, .int .i64 (compE t l n).2]) else none
    | none => none
  | _ => none
theorem yComp_ok : ∀ xs r, yComp xs = some r → PCalls Tryd.prog 20 xs r := by
  intro xs r h
  unfold yComp at h
  split at h
  · split at h
    · rename_i l hl
      have hl := rowL_some (un := unI) rfl (@unI_some) hl
      split at h
      · rename_i hc; cases h; exact rCompound_c _ hl hc _
      · cases h
    · cases h
  · cases h
attribute [go_sem] yComp
noncomputable def yCut : List TV → Option TV
  | [.agg [.int .i64 t, s], .int .i64 c, .int .i64 n] => match rowL unI s with
    | some l => if l.length ≤ 17592186044415 then some (.tup [rowG ic (cutE t l c n).1, .int .i64 (cutE t l c n).2.1, .int .i64 (cutE t l c n).2.2]) else none
    | none => none
  | _ => none
theorem yCut_ok : ∀ xs r, yCut xs = some r → PCalls Tryd.prog 23 xs r := by
  intro xs r h
  unfold yCut at h
  split at h
  · split at h
    · rename_i l hl
      have hl := rowL_some (un := unI) rfl (@unI_some) hl
      split at h
      · rename_i hc; cases h; exact rCut_c _ hl hc _ _
      · cases h
    · cases h
  · cases h
attribute [go_sem] yCut
noncomputable def yBest : List TV → Option TV
  | [.agg [.int .i64 t, s], .int .i64 n] => match rowL unI s with
    | some l => if l.length ≤ 17592186044415 then some (.tup [.int .i64 (bestE t l n).1, .int .i64 (bestE t l n).2.1, .int .i64 (bestE t l n).2.2]) else none
    | none => none
  | _ => none
theorem yBest_ok : ∀ xs r, yBest xs = some r → PCalls Tryd.prog 26 xs r := by
  intro xs r h
  unfold yBest at h
  split at h
  · split at h
    · rename_i l hl
      have hl := rowL_some (un := unI) rfl (@unI_some) hl
      split at h
      · rename_i hc; cases h; exact rBest_c _ hl hc _
      · cases h
    · cases h
  · cases h
attribute [go_sem] yBest
noncomputable def yTrain : List TV → Option TV
  | [s, .int .i64 p, .int .i64 q] => match rowL unI s with
    | some l => if l.length ≤ 17592186044415 then some (.tup [(trainE l p q).1.tv, .int .i64 (trainE l p q).2]) else none
    | none => none
  | _ => none
theorem yTrain_ok : ∀ xs r, yTrain xs = some r → PCalls Tryd.prog 28 xs r := by
  intro xs r h
  unfold yTrain at h
  split at h
  · split at h
    · rename_i l hl
      have hl := rowL_some (un := unI) rfl (@unI_some) hl
      split at h
      · rename_i hc; cases h; exact rTrainE_c hl hc _ _
      · cases h
    · cases h
  · cases h
attribute [go_sem] yTrain
noncomputable def yDiff : List TV → Option TV
  | [.agg [.int .i64 t, s], u, .int .i64 n] => match rowL unI s, rowL unI u with
    | some l, some st => if l.length ≤ 17592186044415 ∧ st.length ≤ 17592186044415 then some (.tup [(diffE t l st n).1.tv, .int .i64 (diffE t l st n).2]) else none
    | _, _ => none
  | _ => none
theorem yDiff_ok : ∀ xs r, yDiff xs = some r → PCalls Tryd.prog 30 xs r := by
  intro xs r h
  unfold yDiff at h
  split at h
  · split at h
    · rename_i a b ha hb
      split at h
      · rename_i hc; cases h
        exact rDiff_c _ (rowL_some (un := unI) rfl (@unI_some) ha) hc.1 (rowL_some (un := unI) rfl (@unI_some) hb) hc.2 _
      · cases h
    · cases h
  · cases h
attribute [go_sem] yDiff
noncomputable def spL1 : Pm.Spec := ((((((spK3.one 15 yPlans).one 20 yComp).one 23 yCut).one 26 yBest).one 28 yTrain).one 30 yDiff).one 18 rxCheck
@[go_sem] theorem spL1_p (f : FuncId) (xs : List TV) : spL1.p f xs = Pm.Spec.p (((((((spK3.one 15 yPlans).one 20 yComp).one 23 yCut).one 26 yBest).one 28 yTrain).one 30 yDiff).one 18 rxCheck) f xs := rfl
@[go_sem] theorem spL1_h (f : FuncId) (ps : List PV) (hl : List PO) : spL1.h f ps hl = Pm.Spec.h (((((((spK3.one 15 yPlans).one 20 yComp).one 23 yCut).one 26 yBest).one 28 yTrain).one 30 yDiff).one 18 rxCheck) f ps hl := rfl
@[go_sem] theorem spL1_fz (f : FuncId) : spL1.fz f = Pm.Spec.fz (((((((spK3.one 15 yPlans).one 20 yComp).one 23 yCut).one 26 yBest).one 28 yTrain).one 30 yDiff).one 18 rxCheck) f := rfl
@[go_sem] theorem spL1_fr (f : FuncId) : spL1.fr f = Pm.Spec.fr (((((((spK3.one 15 yPlans).one 20 yComp).one 23 yCut).one 26 yBest).one 28 yTrain).one 30 yDiff).one 18 rxCheck) f := rfl
@[go_sem] theorem spL1_mu (t : TypeId) : spL1.mu t = Pm.Spec.mu (((((((spK3.one 15 yPlans).one 20 yComp).one 23 yCut).one 26 yBest).one 28 yTrain).one 30 yDiff).one 18 rxCheck) t := rfl
theorem spL1_ok : SpecOk Tryd.prog spL1 := Spec.one_ok rxCheck_ok (Spec.one_ok yDiff_ok (Spec.one_ok yTrain_ok (Spec.one_ok yBest_ok (Spec.one_ok yCut_ok (Spec.one_ok yComp_ok (Spec.one_ok yPlans_ok spK3_ok))))))
theorem IndexPlans_c (t : Int) {l : List Int} {s : TV} (hl : IsRow ic s l) (hll : l.length ≤ 17592186044415) (n : Int) : PCalls Tryd.prog 3 [.agg [.int .i64 t, s], .int .i64 n] (.bool true) := by
  have rI := rowI_is hl
  have r1 := rowL_F unP_eq (plansE t l n).1
  have r2 := rowL_G unP_eq (plansE t l n).1
  unfold rowL at rI r1 r2
  have hlen : (plansE t l n).1.length ≤ 9223372036854775806 := by have := plansE_len t l n; omega
  refine pcalls_by Tryd.mixes spL1_ok (fn := Tryd.f3) Tryd.func3 rfl (by kernel_rfl) (by show 2 ≤ _; decide) ?_
  simp (decide := true) (maxSteps := 4000000) only [go_sem, Nat.reduceAdd, Nat.reduceSub, Nat.reduceMul, Nat.reduceDiv, Nat.reduceMod, Nat.reduceLT, Nat.reduceLeDiff, Nat.reduceEqDiff, Nat.reduceBEq, Nat.reduceBNe, Nat.reduceGT, Int.reduceAdd, Int.reduceSub, Int.reduceMul, Int.reduceNeg, Int.reduceLT, Int.reduceLE, Int.reduceEq, Int.reduceNe, Int.reduceBEq, Int.reduceBNe, Int.reduceToNat, Int.reduceGT, Int.reduceGE, ↓reduceIte, decide_true, decide_false, eq_self, Nat.mul_one, Nat.zero_mul, Nat.one_mul, Int.le_refl, Nat.le_refl, Int.cast_ofNat_Int, Tryd.f3, rI, hll, r1, r2, hlen, beq_self_eq_true, bne_self_eq_false, Pr.tv, Pr.cs]
theorem IndexCuts_c (t : Int) {l : List Int} {s : TV} (hl : IsRow ic s l) (hll : l.length ≤ 17592186044415) (c n : Int) : PCalls Tryd.prog 4 [.agg [.int .i64 t, s], .int .i64 c, .int .i64 n] (.bool true) := by
  have rI := rowI_is hl
  have r1 := rowL_G (un := unI) (c := ic) (fun l => by rw [ic_ints]; exact unI_eq l) (cutE t l c n).1
  unfold rowL at rI r1
  have hlen : (cutE t l c n).1.length ≤ 9223372036854775806 := by have := cutE_len t l c n; omega
  refine pcalls_by Tryd.mixes spL1_ok (fn := Tryd.f4) Tryd.func4 rfl (by kernel_rfl) (by show 3 ≤ _; decide) ?_
  simp (decide := true) (maxSteps := 4000000) only [go_sem, Nat.reduceAdd, Nat.reduceSub, Nat.reduceMul, Nat.reduceDiv, Nat.reduceMod, Nat.reduceLT, Nat.reduceLeDiff, Nat.reduceEqDiff, Nat.reduceBEq, Nat.reduceBNe, Nat.reduceGT, Int.reduceAdd, Int.reduceSub, Int.reduceMul, Int.reduceNeg, Int.reduceLT, Int.reduceLE, Int.reduceEq, Int.reduceNe, Int.reduceBEq, Int.reduceBNe, Int.reduceToNat, Int.reduceGT, Int.reduceGE, ↓reduceIte, decide_true, decide_false, eq_self, Nat.mul_one, Nat.zero_mul, Nat.one_mul, Int.le_refl, Nat.le_refl, Int.cast_ofNat_Int, Tryd.f4, rI, hll, r1, hlen, beq_self_eq_true, bne_self_eq_false]
theorem IndexTrains_c {st : List Int} {s : TV} (hs : IsRow ic s st) (hsl : st.length ≤ 17592186044415) (p q : Int) : PCalls Tryd.prog 5 [s, .agg [.int .i64 p, .int .i64 q]] (.bool true) := by
  have rI := rowI_is hs
  unfold rowL at rI
  refine pcalls_by Tryd.mixes spL1_ok (fn := Tryd.f5) Tryd.func5 rfl (by kernel_rfl) (by show 2 ≤ _; decide) ?_
  simp (decide := true) (maxSteps := 4000000) only [go_sem, Nat.reduceAdd, Nat.reduceSub, Nat.reduceMul, Nat.reduceDiv, Nat.reduceMod, Nat.reduceLT, Nat.reduceLeDiff, Nat.reduceEqDiff, Nat.reduceBEq, Nat.reduceBNe, Nat.reduceGT, Int.reduceAdd, Int.reduceSub, Int.reduceMul, Int.reduceNeg, Int.reduceLT, Int.reduceLE, Int.reduceEq, Int.reduceNe, Int.reduceBEq, Int.reduceBNe, Int.reduceToNat, Int.reduceGT, Int.reduceGE, ↓reduceIte, decide_true, decide_false, eq_self, Nat.mul_one, Nat.zero_mul, Nat.one_mul, Int.le_refl, Nat.le_refl, Int.cast_ofNat_Int, Tryd.f5, rI, hsl, beq_self_eq_true, Tn.tv, Tn.cs]
theorem IndexDiffers_c (t : Int) {l : List Int} {s : TV} (hl : IsRow ic s l) (hll : l.length ≤ 17592186044415) {st : List Int} {u : TV} (hs : IsRow ic u st) (hsl : st.length ≤ 17592186044415) (n : Int) : PCalls Tryd.prog 6 [.agg [.int .i64 t, s], u, .int .i64 n] (.bool true) := by
  have rI := rowI_is hl
  have rS := rowI_is hs
  unfold rowL at rI rS
  refine pcalls_by Tryd.mixes spL1_ok (fn := Tryd.f6) Tryd.func6 rfl (by kernel_rfl) (by show 3 ≤ _; decide) ?_
  simp (decide := true) (maxSteps := 4000000) only [go_sem, Nat.reduceAdd, Nat.reduceSub, Nat.reduceMul, Nat.reduceDiv, Nat.reduceMod, Nat.reduceLT, Nat.reduceLeDiff, Nat.reduceEqDiff, Nat.reduceBEq, Nat.reduceBNe, Nat.reduceGT, Int.reduceAdd, Int.reduceSub, Int.reduceMul, Int.reduceNeg, Int.reduceLT, Int.reduceLE, Int.reduceEq, Int.reduceNe, Int.reduceBEq, Int.reduceBNe, Int.reduceToNat, Int.reduceGT, Int.reduceGE, ↓reduceIte, decide_true, decide_false, eq_self, Nat.mul_one, Nat.zero_mul, Nat.one_mul, Int.le_refl, Nat.le_refl, Int.cast_ofNat_Int, Tryd.f6, rI, hll, rS, hsl, beq_self_eq_true, Df.tv, Df.cs, Pl.cs, Tn.cs]
end Go.Proofs.YtnoahnbjdapieaaDoor

/- Part Io. -/
namespace Go.Proofs.YtnoahnbjdapieaaDoor
open Go.RowKit Go.Pm Go.Oc
set_option maxRecDepth 100000
set_option linter.unusedVariables false

/-- The package-level variable holds what the rows say. -/
theorem ix_glob {w : World} (h : laidMetH Tryd.prog [("octant/index.noTrain", Rows.laid_octant_index_noTrain)] w) : GlobOk (allF w) := by
  rw [MakeChecks.laidMetH_plain _ _ _ (by kernel_rfl)] at h
  have hr := glob_ints (P := Tryd.prog) (name := "octant/index.noTrain") (ns := [-1, -1, -1, -1]) (w := w) h (g := 0) (t := 45) (e := 3) (by kernel_rfl) (by kernel_rfl) Tryd.underlying45 (by kernel_rfl) (by kernel_rfl) (by kernel_rfl) (by kernel_rfl) (by kernel_rfl)
  intro g cs hc
  match g, hc with
  | 0, hc =>
    have e : cs = [.int .i64 (-1), .int .i64 (-1), .int .i64 (-1), .int .i64 (-1)] := (Option.some.inj (show some _ = some cs from hc)).symm
    rw [e]; exact hr
  | g + 1, hc => cases hc
/-- The door's own heap meets it. -/
theorem ix_met (os : Os) (args : Array Value) : laidMetH Tryd.prog [("octant/index.noTrain", Rows.laid_octant_index_noTrain)] ((World.doorLaid Tryd.prog 14 os).forCall (fun _ _ => 0) ⟨#[], args, []⟩).memory :=
  laidMetH_of_parts3 (fuel := 8) (laidMet_of_run' 8 (by kernel_rfl) (by kernel_rfl)) (by kernel_rfl) (by kernel_rfl)
theorem ix_shaped (os : Os) (args : Array Value) : ((World.doorLaid Tryd.prog 14 os).forCall (fun _ _ => 0) ⟨#[], args, []⟩).Shaped Tryd.prog := World.shaped_of_RefB (by kernel_rfl) (by kernel_rfl)
end Go.Proofs.YtnoahnbjdapieaaDoor
