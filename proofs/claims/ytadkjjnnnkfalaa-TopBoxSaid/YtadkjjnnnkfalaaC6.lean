/- What the claim leans on, text 6. -/
import Derived.Test.YtadkjjnnnkfalaaC5
set_option linter.unusedSimpArgs false
set_option linter.unusedVariables false

/- Part Kj. -/
namespace Go.Ok
open Go Go.RowKit Go.Pm Go.Oc Go.Oh Go.Os
/-- A rule, as the program has it. -/
structure W5 where
  c : Int
  d : Int
  c' : Int
  d' : Int
  m : Int
def W5.cs (r : W5) : List TV := [.int .i64 r.c, .int .i64 r.d, .int .i64 r.c', .int .i64 r.d', .int .i64 r.m]
def apR (c d c' d' : Int) (s : Span) : List W5 := [⟨c, d, c', d', s.hi⟩, ⟨c', d', c, d, -s.lo⟩]
structure Wa where
  F : List Int
  S : List Int
  wr : Int
  r0 : Span
  r1 : Span
  r2 : Span
def Wa.r (w : Wa) : Nat → Span
  | 0 => w.r0
  | 1 => w.r1
  | _ => w.r2
def cmpR (w : Wa) (d : Nat) : List W5 := apR 0 d 1 d ⟨tempAt w.F d - w.wr, tempAt w.F d + w.wr⟩ ++ apR 1 d 2 d ⟨tempAt w.S d - w.wr, tempAt w.S d + w.wr⟩
def rateR (w : Wa) (jb : Nat → Bool) (d : Nat) (c : Nat) : List W5 := if 0 < d ∧ jb c = false then apR c d c ((d : Int) - 1) (w.r c) else []
def dayR (w : Wa) (jb : Nat → Bool) (d : Nat) (k : Nat) : List W5 := cmpR w d ++ (List.range k).flatMap (rateR w jb d)
def rulesR (w : Wa) (jb : Nat → Bool) (n : Nat) : List W5 := (List.range n).flatMap fun d => dayR w jb d 3
theorem rulesR_succ (w : Wa) (jb : Nat → Bool) (n : Nat) : rulesR w jb (n + 1) = rulesR w jb n ++ dayR w jb n 3 := by
  unfold rulesR; rw [List.range_succ, List.flatMap_append]; simp
theorem dayR_succ (w : Wa) (jb : Nat → Bool) (d k : Nat) : dayR w jb d (k + 1) = dayR w jb d k ++ rateR w jb d k := by
  unfold dayR; rw [List.range_succ, List.flatMap_append, List.append_assoc]; simp
theorem dayR_len (w : Wa) (jb : Nat → Bool) (d : Nat) : ∀ k, (dayR w jb d k).length ≤ 4 + 2 * k
  | 0 => by simp [dayR, cmpR, apR]
  | k + 1 => by
    rw [dayR_succ, List.length_append]
    have := dayR_len w jb d k
    have : (rateR w jb d k).length ≤ 2 := by unfold rateR; split <;> simp [apR]
    omega
theorem rulesR_len (w : Wa) (jb : Nat → Bool) : ∀ n, (rulesR w jb n).length ≤ 10 * n
  | 0 => by simp [rulesR]
  | n + 1 => by
    rw [rulesR_succ, List.length_append]
    have := rulesR_len w jb n
    have := dayR_len w jb n 3
    omega
theorem W5_len (l : List W5) : (l.flatMap W5.cs).length = l.length * 5 := by
  induction l with
  | nil => rfl
  | cons x l ih => rw [List.flatMap_cons, List.length_append, ih, List.length_cons]; show 5 + _ = _; omega
/-- Which clocks jump. -/
def jbit (j : Int) (c : Nat) : Bool := decide ((j = 1 ∧ c = 0) ∨ (j = 2 ∧ c = 1) ∨ (j = 4 ∧ c = 2))
theorem k12_of {N k n : Nat} (h : N ≤ 10 * k) (h2 : k ≤ n) (h3 : n ≤ 20) : (N + 2) * 40 ≤ 140737488355328 ∧ (N + 2 + 2) * 40 ≤ 140737488355328 := by omega
theorem k34_of {N M k n c : Nat} (h : N ≤ 10 * k) (h4 : M ≤ 4 + 2 * c) (h2 : k ≤ n) (h3 : n ≤ 20) (h5 : c ≤ 3) : (N + M + 2) * 40 ≤ 140737488355328 ∧ (N + M) * 5 ≤ 1000000 := by omega
theorem NM_of {R D : List W5} {N M : Nat} {X : List TV} (h1 : R.length = N) (fl : X.length = N * 5) (h2 : D.length = M) : (X ++ D.flatMap W5.cs).length = (N + M) * 5 := by rw [List.length_append, fl, W5_len, h2, Nat.add_mul]
theorem rB_of {a : Int} (h : -100000 ≤ a ∧ a ≤ 100000) : -4000000000000000000 ≤ a ∧ a ≤ 4000000000000000000 := by omega
theorem k_facts {k : Nat} (h : (0 : Int) < k) (h2 : (k : Int) ≤ 20) : IntKind.i64.wrap ((k : Int) - 1) = (k : Int) - 1 ∧ ((k : Int) = (k : Int) - 1) = False ∧ 0 < k := ⟨wrap_in (by omega) (by omega), by simp; omega, by omega⟩
theorem jbit_w {j : Int} (hj : j = 0 ∨ j = 1 ∨ j = 2 ∨ j = 4) {c : Nat} (hc : c < 3) : (IntKind.i64.wrap ↑(BitVec.ofInt IntKind.i64.bits (j.fdiv (2 ^ min c IntKind.i64.bits)) &&& BitVec.ofInt IntKind.i64.bits 1).toNat == 0) = !(jbit j c) := by
  rcases hj with rfl | rfl | rfl | rfl <;> rcases (by omega : c = 0 ∨ c = 1 ∨ c = 2) with rfl | rfl | rfl <;> decide
theorem day_not (w : Wa) (jb : Nat → Bool) (d c : Nat) (h : ¬ (0 < d ∧ jb c = false)) : dayR w jb d (c + 1) = dayR w jb d c := by
  rw [dayR_succ]; unfold rateR; rw [if_neg h, List.append_nil]
theorem day_act (w : Wa) (jb : Nat → Bool) (d c : Nat) (h : 0 < d ∧ jb c = false) (ci : Int) (hci : (c : Int) = ci) {s : Span} (hs : w.r c = s) {X : List TV} {N M : Nat} (hM : (dayR w jb d c).length = M) :
    X ++ (dayR w jb d (c + 1)).flatMap W5.cs = X ++ (dayR w jb d c).flatMap W5.cs ++ [.int .i64 ci, .int .i64 d, .int .i64 ci, .int .i64 ((d : Int) - 1), .int .i64 s.hi, .int .i64 ci, .int .i64 ((d : Int) - 1), .int .i64 ci, .int .i64 d, .int .i64 (-s.lo)] ∧ N + (dayR w jb d (c + 1)).length = N + M + 2 := by
  subst hci; subst hs
  rw [dayR_succ]; unfold rateR; rw [if_pos h, List.length_append, hM, List.flatMap_append, ← List.append_assoc]
  exact ⟨rfl, rfl⟩
theorem lX_of {α : Type} {X Y : List α} {N : Nat} (fl : X.length = N * 5) (hY : Y.length = 10) : ((X ++ Y).length = (N + 2) * 5) = True := by rw [List.length_append, fl, hY]; simp; omega
end Go.Ok
namespace Go.Proofs.Ytadkjjnnnkfalaa
open Go.RowKit Go.Pm Go.Oc Go.Oh Go.Os Go.Ok
set_option maxRecDepth 100000
set_option linter.unusedVariables false
set_option maxHeartbeats 8000000

theorem kRules_c (w : Wa) (fF fS : Bool) (t : TypeId) (F : TV → Option TV) (j : Int) (hj : j = 0 ∨ j = 1 ∨ j = 2 ∨ j = 4) (days : Int) (n : Nat) (hn : n ≤ w.F.length) (hn2 : n ≤ w.S.length) (h20 : n ≤ 20) (hn1 : 1 ≤ n)
    (hF : ∀ k, k < n → -1000000000 ≤ tempAt w.F k ∧ tempAt w.F k ≤ 1000000000) (hS : ∀ k, k < n → -1000000000 ≤ tempAt w.S k ∧ tempAt w.S k ≤ 1000000000) (hw : 0 ≤ w.wr ∧ w.wr ≤ 1000)
    (hr : ∀ c, -100000 ≤ (w.r c).lo ∧ (w.r c).lo ≤ 100000) :
    HCalls Try.prog 107 [consP false (wCells (.sl (ints w.F) w.F.length fF) (.sl (ints w.S) w.S.length fS) w.wr w.r0 w.r1 w.r2 days 0), .t (.int .i64 n), .t (.int .i64 j)] (getL [.mp t F]) (.t (.sl ((rulesR w (jbit j) n).flatMap W5.cs) (rulesR w (jbit j) n).length false)) (getL [.mp t F]) := by
  have hlr := rulesR_len w (jbit j)
  have hld := dayR_len w (jbit j)
  refine hcalls_by Try.mixes spKi_ok (fn := Try.f107) Try.func107 rfl (by kernel_rfl) (by show 3 ≤ _; decide) ?_
  simp (decide := true) (maxSteps := 4000000) only [go_sem, Nat.reduceAdd, Nat.reduceSub, Nat.reduceMul, Nat.reduceDiv, Nat.reduceMod, Nat.reduceLT, Nat.reduceLeDiff, Nat.reduceEqDiff, Nat.reduceBEq, Nat.reduceBNe, Nat.reduceGT, Int.reduceAdd, Int.reduceSub, Int.reduceMul, Int.reduceNeg, Int.reduceLT, Int.reduceLE, Int.reduceEq, Int.reduceNe, Int.reduceBEq, Int.reduceBNe, Int.reduceToNat, Int.reduceGT, Int.reduceGE, ↓reduceIte, decide_true, decide_false, eq_self, Nat.mul_one, Nat.zero_mul, Nat.one_mul, Int.le_refl, Nat.le_refl, Int.cast_ofNat_Int, Try.f107, wCells, consP]
  refine pwpC_loopU (A := { k : Nat // k ≤ n }) [2, 3, 6, 7, 12] (fun k => [(13, .t (.int .i64 k.1)), (8, .own ((rulesR w (jbit j) k.1).flatMap W5.cs) (rulesR w (jbit j) k.1).length 2)]) (fun k => [(2, .tok (rulesR w (jbit j) k.1).length 215)]) (fun k => n - k.1) ⟨0, by omega⟩ (by decide) (fun _ => by rfl) ?_ fun Q1 hQ1 ⟨k, hk⟩ I1 hI1 => ?_
  · simp (decide := true) (maxSteps := 4000000) only [go_sem, Nat.reduceAdd, Nat.reduceSub, Nat.reduceMul, Nat.reduceDiv, Nat.reduceMod, Nat.reduceLT, Nat.reduceLeDiff, Nat.reduceEqDiff, Nat.reduceBEq, Nat.reduceBNe, Nat.reduceGT, Int.reduceAdd, Int.reduceSub, Int.reduceMul, Int.reduceNeg, Int.reduceLT, Int.reduceLE, Int.reduceEq, Int.reduceNe, Int.reduceBEq, Int.reduceBNe, Int.reduceToNat, Int.reduceGT, Int.reduceGE, ↓reduceIte, decide_true, decide_false, eq_self, Nat.mul_one, Nat.zero_mul, Nat.one_mul, Int.le_refl, Nat.le_refl, Int.cast_ofNat_Int, rulesR, List.range_zero, List.flatMap_nil, List.length_nil]
    first | done | trace_state
  · by_cases hlt : (k : Int) < n
    · obtain ⟨x, hx⟩ : ∃ x, w.F[k]? = some x := ⟨_, List.getElem?_eq_getElem (by omega)⟩
      obtain ⟨y, hy⟩ : ∃ y, w.S[k]? = some y := ⟨_, List.getElem?_eq_getElem (by omega)⟩
      have hdx := ints_at hx
      have hdy := ints_at hy
      rw [Nat.mul_one] at hdx hdy
      have hFk := hF k (by omega)
      have hSk := hS k (by omega)
      rw [tempAt_eq hx] at hFk
      rw [tempAt_eq hy] at hSk
      have f1 : (k : Int) < w.F.length := by omega
      have f2 : (k : Int) < w.S.length := by omega
      have b1 : -4000000000000000000 ≤ x - w.wr ∧ x - w.wr ≤ 4000000000000000000 := by omega
      have b2 : -4000000000000000000 ≤ y - w.wr ∧ y - w.wr ≤ 4000000000000000000 := by omega
      have hl := hlr k
      obtain ⟨N, hN⟩ : ∃ N, (rulesR w (jbit j) k).length = N := ⟨_, rfl⟩
      have fl := W5_len (rulesR w (jbit j) k)
      rw [hN] at fl hl
      obtain ⟨k1, k2⟩ := k12_of hl hk h20
      generalize hX : (rulesR w (jbit j) k).flatMap W5.cs = X at *
      have lX : ∀ Y : List TV, Y.length = 10 → ((X ++ Y).length = (N + 2) * 5) = True := fun Y hY => lX_of fl hY
      have ex := tempAt_eq hx
      have ey := tempAt_eq hy
      have hA0 : X ++ (dayR w (jbit j) k 0).flatMap W5.cs = X ++ [.int .i64 0, .int .i64 k, .int .i64 1, .int .i64 k, .int .i64 (x + w.wr), .int .i64 1, .int .i64 k, .int .i64 0, .int .i64 k, .int .i64 (-(x - w.wr))] ++ [.int .i64 1, .int .i64 k, .int .i64 2, .int .i64 k, .int .i64 (y + w.wr), .int .i64 2, .int .i64 k, .int .i64 1, .int .i64 k, .int .i64 (-(y - w.wr))] := by
        rw [List.append_assoc]
        simp only [dayR, cmpR, apR, W5.cs, List.range_zero, List.flatMap_nil, List.append_nil, List.flatMap_append, List.flatMap_cons, ex, ey]
        rfl
      have hN0 : (dayR w (jbit j) k 0).length = 2 + 2 := by simp [dayR, cmpR, apR]
      have hN0' : N + (2 + 2) = N + 2 + 2 := rfl
      simp (decide := true) (maxSteps := 4000000) only [go_sem, Nat.reduceAdd, Nat.reduceSub, Nat.reduceMul, Nat.reduceDiv, Nat.reduceMod, Nat.reduceLT, Nat.reduceLeDiff, Nat.reduceEqDiff, Nat.reduceBEq, Nat.reduceBNe, Nat.reduceGT, Int.reduceAdd, Int.reduceSub, Int.reduceMul, Int.reduceNeg, Int.reduceLT, Int.reduceLE, Int.reduceEq, Int.reduceNe, Int.reduceBEq, Int.reduceBNe, Int.reduceToNat, Int.reduceGT, Int.reduceGE, ↓reduceIte, decide_true, decide_false, eq_self, Nat.mul_one, Nat.zero_mul, Nat.one_mul, Int.le_refl, Nat.le_refl, Int.cast_ofNat_Int, hlt, hdx, hdy, f1, f2, hFk, hSk, hw, b1, b2, hN, fl, k1, lX, k2]
      refine pwpC_loopU (A := { c : Nat // c ≤ 3 }) [2, 3, 6, 7, 9, 12, 13] (fun c => [(46, .t (.int .i64 c.1)), (8, .own (X ++ (dayR w (jbit j) k c.1).flatMap W5.cs) (N + (dayR w (jbit j) k c.1).length) 2)]) (fun c => [(2, .tok (N + (dayR w (jbit j) k c.1).length) 215)]) (fun c => 3 - c.1) ⟨0, by omega⟩ (by decide) (fun _ => by rfl) ?_ fun Q2 hQ2 ⟨c, hc⟩ I2 hI2 => ?_
      · simp (decide := true) (maxSteps := 4000000) only [go_sem, Nat.reduceAdd, Nat.reduceSub, Nat.reduceMul, Nat.reduceDiv, Nat.reduceMod, Nat.reduceLT, Nat.reduceLeDiff, Nat.reduceEqDiff, Nat.reduceBEq, Nat.reduceBNe, Nat.reduceGT, Int.reduceAdd, Int.reduceSub, Int.reduceMul, Int.reduceNeg, Int.reduceLT, Int.reduceLE, Int.reduceEq, Int.reduceNe, Int.reduceBEq, Int.reduceBNe, Int.reduceToNat, Int.reduceGT, Int.reduceGE, ↓reduceIte, decide_true, decide_false, eq_self, Nat.mul_one, Nat.zero_mul, Nat.one_mul, Int.le_refl, Nat.le_refl, Int.cast_ofNat_Int, hA0, hN0]
        first | done | trace_state
      · obtain ⟨M, hM⟩ : ∃ M, (dayR w (jbit j) k c).length = M := ⟨_, rfl⟩
        by_cases hc3 : c < 3
        · have hc3' : (c : Int) < 3 := by omega
          have hM4 := hld k c
          rw [hM] at hM4
          obtain ⟨k3, k4⟩ := k34_of hl hM4 hk h20 hc
          have hNm := NM_of hN fl hM
          have hkn : (k : Int) ≤ 20 := by omega
          have r0 := rB_of (hr c)
          by_cases hk0 : (0 : Int) < k
          · obtain ⟨hw1, hkk, hk0'⟩ := k_facts hk0 hkn
            rcases (by omega : c = 0 ∨ c = 1 ∨ c = 2) with rfl | rfl | rfl
            · have hb := jbit_w hj (c := 0) (by decide)
              cases hB : jbit j 0 with
              | true =>
                rw [hB] at hb
                have e1 := day_not w (jbit j) k 0 (fun h => by rw [hB] at h; cases h.2)
                simp (decide := true) (maxSteps := 4000000) only [go_sem, Nat.reduceAdd, Nat.reduceSub, Nat.reduceMul, Nat.reduceDiv, Nat.reduceMod, Nat.reduceLT, Nat.reduceLeDiff, Nat.reduceEqDiff, Nat.reduceBEq, Nat.reduceBNe, Nat.reduceGT, Int.reduceAdd, Int.reduceSub, Int.reduceMul, Int.reduceNeg, Int.reduceLT, Int.reduceLE, Int.reduceEq, Int.reduceNe, Int.reduceBEq, Int.reduceBNe, Int.reduceToNat, Int.reduceGT, Int.reduceGE, ↓reduceIte, decide_true, decide_false, eq_self, Nat.mul_one, Nat.zero_mul, Nat.one_mul, Int.le_refl, Nat.le_refl, Int.cast_ofNat_Int, hM, hk0]
                refine condC_splitB (fun ht => (by cases hb.symm.trans ht)) (fun _ => ?_)
                simp (decide := true) (maxSteps := 4000000) only [go_sem, Nat.reduceAdd, Nat.reduceSub, Nat.reduceMul, Nat.reduceDiv, Nat.reduceMod, Nat.reduceLT, Nat.reduceLeDiff, Nat.reduceEqDiff, Nat.reduceBEq, Nat.reduceBNe, Nat.reduceGT, Int.reduceAdd, Int.reduceSub, Int.reduceMul, Int.reduceNeg, Int.reduceLT, Int.reduceLE, Int.reduceEq, Int.reduceNe, Int.reduceBEq, Int.reduceBNe, Int.reduceToNat, Int.reduceGT, Int.reduceGE, ↓reduceIte, decide_true, decide_false, eq_self, Nat.mul_one, Nat.zero_mul, Nat.one_mul, Int.le_refl, Nat.le_refl, Int.cast_ofNat_Int]
                refine hI2 _ ⟨1, by omega⟩ (by simp only; omega) ?_
                simp (decide := true) (maxSteps := 4000000) only [go_sem, Nat.reduceAdd, Nat.reduceSub, Nat.reduceMul, Nat.reduceDiv, Nat.reduceMod, Nat.reduceLT, Nat.reduceLeDiff, Nat.reduceEqDiff, Nat.reduceBEq, Nat.reduceBNe, Nat.reduceGT, Int.reduceAdd, Int.reduceSub, Int.reduceMul, Int.reduceNeg, Int.reduceLT, Int.reduceLE, Int.reduceEq, Int.reduceNe, Int.reduceBEq, Int.reduceBNe, Int.reduceToNat, Int.reduceGT, Int.reduceGE, ↓reduceIte, decide_true, decide_false, eq_self, Nat.mul_one, Nat.zero_mul, Nat.one_mul, Int.le_refl, Nat.le_refl, Int.cast_ofNat_Int, e1, hM]
              | false =>
                rw [hB] at hb
                obtain ⟨e1, e2⟩ := day_act w (jbit j) k 0 ⟨hk0', hB⟩ (0 : Int) rfl (s := w.r0) rfl (X := X) (N := N) hM
                simp (decide := true) (maxSteps := 4000000) only [go_sem, Nat.reduceAdd, Nat.reduceSub, Nat.reduceMul, Nat.reduceDiv, Nat.reduceMod, Nat.reduceLT, Nat.reduceLeDiff, Nat.reduceEqDiff, Nat.reduceBEq, Nat.reduceBNe, Nat.reduceGT, Int.reduceAdd, Int.reduceSub, Int.reduceMul, Int.reduceNeg, Int.reduceLT, Int.reduceLE, Int.reduceEq, Int.reduceNe, Int.reduceBEq, Int.reduceBNe, Int.reduceToNat, Int.reduceGT, Int.reduceGE, ↓reduceIte, decide_true, decide_false, eq_self, Nat.mul_one, Nat.zero_mul, Nat.one_mul, Int.le_refl, Nat.le_refl, Int.cast_ofNat_Int, hM, hk0]
                refine condC_splitB (fun _ => ?_) (fun ht => (by cases hb.symm.trans ht))
                simp (decide := true) (maxSteps := 4000000) only [go_sem, Nat.reduceAdd, Nat.reduceSub, Nat.reduceMul, Nat.reduceDiv, Nat.reduceMod, Nat.reduceLT, Nat.reduceLeDiff, Nat.reduceEqDiff, Nat.reduceBEq, Nat.reduceBNe, Nat.reduceGT, Int.reduceAdd, Int.reduceSub, Int.reduceMul, Int.reduceNeg, Int.reduceLT, Int.reduceLE, Int.reduceEq, Int.reduceNe, Int.reduceBEq, Int.reduceBNe, Int.reduceToNat, Int.reduceGT, Int.reduceGE, ↓reduceIte, decide_true, decide_false, eq_self, Nat.mul_one, Nat.zero_mul, Nat.one_mul, Int.le_refl, Nat.le_refl, Int.cast_ofNat_Int, hw1, hkk, (show -4000000000000000000 ≤ w.r0.lo ∧ w.r0.lo ≤ 4000000000000000000 from r0), hNm, k3]
                refine hI2 _ ⟨1, by omega⟩ (by simp only; omega) ?_
                simp (decide := true) (maxSteps := 4000000) only [go_sem, Nat.reduceAdd, Nat.reduceSub, Nat.reduceMul, Nat.reduceDiv, Nat.reduceMod, Nat.reduceLT, Nat.reduceLeDiff, Nat.reduceEqDiff, Nat.reduceBEq, Nat.reduceBNe, Nat.reduceGT, Int.reduceAdd, Int.reduceSub, Int.reduceMul, Int.reduceNeg, Int.reduceLT, Int.reduceLE, Int.reduceEq, Int.reduceNe, Int.reduceBEq, Int.reduceBNe, Int.reduceToNat, Int.reduceGT, Int.reduceGE, ↓reduceIte, decide_true, decide_false, eq_self, Nat.mul_one, Nat.zero_mul, Nat.one_mul, Int.le_refl, Nat.le_refl, Int.cast_ofNat_Int, e1, e2]
                first | done | trace_state
            · have hb := jbit_w hj (c := 1) (by decide)
              cases hB : jbit j 1 with
              | true =>
                rw [hB] at hb
                have e1 := day_not w (jbit j) k 1 (fun h => by rw [hB] at h; cases h.2)
                simp (decide := true) (maxSteps := 4000000) only [go_sem, Nat.reduceAdd, Nat.reduceSub, Nat.reduceMul, Nat.reduceDiv, Nat.reduceMod, Nat.reduceLT, Nat.reduceLeDiff, Nat.reduceEqDiff, Nat.reduceBEq, Nat.reduceBNe, Nat.reduceGT, Int.reduceAdd, Int.reduceSub, Int.reduceMul, Int.reduceNeg, Int.reduceLT, Int.reduceLE, Int.reduceEq, Int.reduceNe, Int.reduceBEq, Int.reduceBNe, Int.reduceToNat, Int.reduceGT, Int.reduceGE, ↓reduceIte, decide_true, decide_false, eq_self, Nat.mul_one, Nat.zero_mul, Nat.one_mul, Int.le_refl, Nat.le_refl, Int.cast_ofNat_Int, hM, hk0]
                refine condC_splitB (fun ht => (by cases hb.symm.trans ht)) (fun _ => ?_)
                simp (decide := true) (maxSteps := 4000000) only [go_sem, Nat.reduceAdd, Nat.reduceSub, Nat.reduceMul, Nat.reduceDiv, Nat.reduceMod, Nat.reduceLT, Nat.reduceLeDiff, Nat.reduceEqDiff, Nat.reduceBEq, Nat.reduceBNe, Nat.reduceGT, Int.reduceAdd, Int.reduceSub, Int.reduceMul, Int.reduceNeg, Int.reduceLT, Int.reduceLE, Int.reduceEq, Int.reduceNe, Int.reduceBEq, Int.reduceBNe, Int.reduceToNat, Int.reduceGT, Int.reduceGE, ↓reduceIte, decide_true, decide_false, eq_self, Nat.mul_one, Nat.zero_mul, Nat.one_mul, Int.le_refl, Nat.le_refl, Int.cast_ofNat_Int]
                refine hI2 _ ⟨2, by omega⟩ (by simp only; omega) ?_
                simp (decide := true) (maxSteps := 4000000) only [go_sem, Nat.reduceAdd, Nat.reduceSub, Nat.reduceMul, Nat.reduceDiv, Nat.reduceMod, Nat.reduceLT, Nat.reduceLeDiff, Nat.reduceEqDiff, Nat.reduceBEq, Nat.reduceBNe, Nat.reduceGT, Int.reduceAdd, Int.reduceSub, Int.reduceMul, Int.reduceNeg, Int.reduceLT, Int.reduceLE, Int.reduceEq, Int.reduceNe, Int.reduceBEq, Int.reduceBNe, Int.reduceToNat, Int.reduceGT, Int.reduceGE, ↓reduceIte, decide_true, decide_false, eq_self, Nat.mul_one, Nat.zero_mul, Nat.one_mul, Int.le_refl, Nat.le_refl, Int.cast_ofNat_Int, e1, hM]
              | false =>
                rw [hB] at hb
                obtain ⟨e1, e2⟩ := day_act w (jbit j) k 1 ⟨hk0', hB⟩ (1 : Int) rfl (s := w.r1) rfl (X := X) (N := N) hM
                simp (decide := true) (maxSteps := 4000000) only [go_sem, Nat.reduceAdd, Nat.reduceSub, Nat.reduceMul, Nat.reduceDiv, Nat.reduceMod, Nat.reduceLT, Nat.reduceLeDiff, Nat.reduceEqDiff, Nat.reduceBEq, Nat.reduceBNe, Nat.reduceGT, Int.reduceAdd, Int.reduceSub, Int.reduceMul, Int.reduceNeg, Int.reduceLT, Int.reduceLE, Int.reduceEq, Int.reduceNe, Int.reduceBEq, Int.reduceBNe, Int.reduceToNat, Int.reduceGT, Int.reduceGE, ↓reduceIte, decide_true, decide_false, eq_self, Nat.mul_one, Nat.zero_mul, Nat.one_mul, Int.le_refl, Nat.le_refl, Int.cast_ofNat_Int, hM, hk0]
                refine condC_splitB (fun _ => ?_) (fun ht => (by cases hb.symm.trans ht))
                simp (decide := true) (maxSteps := 4000000) only [go_sem, Nat.reduceAdd, Nat.reduceSub, Nat.reduceMul, Nat.reduceDiv, Nat.reduceMod, Nat.reduceLT, Nat.reduceLeDiff, Nat.reduceEqDiff, Nat.reduceBEq, Nat.reduceBNe, Nat.reduceGT, Int.reduceAdd, Int.reduceSub, Int.reduceMul, Int.reduceNeg, Int.reduceLT, Int.reduceLE, Int.reduceEq, Int.reduceNe, Int.reduceBEq, Int.reduceBNe, Int.reduceToNat, Int.reduceGT, Int.reduceGE, ↓reduceIte, decide_true, decide_false, eq_self, Nat.mul_one, Nat.zero_mul, Nat.one_mul, Int.le_refl, Nat.le_refl, Int.cast_ofNat_Int, hw1, hkk, (show -4000000000000000000 ≤ w.r1.lo ∧ w.r1.lo ≤ 4000000000000000000 from r0), hNm, k3]
                refine hI2 _ ⟨2, by omega⟩ (by simp only; omega) ?_
                simp (decide := true) (maxSteps := 4000000) only [go_sem, Nat.reduceAdd, Nat.reduceSub, Nat.reduceMul, Nat.reduceDiv, Nat.reduceMod, Nat.reduceLT, Nat.reduceLeDiff, Nat.reduceEqDiff, Nat.reduceBEq, Nat.reduceBNe, Nat.reduceGT, Int.reduceAdd, Int.reduceSub, Int.reduceMul, Int.reduceNeg, Int.reduceLT, Int.reduceLE, Int.reduceEq, Int.reduceNe, Int.reduceBEq, Int.reduceBNe, Int.reduceToNat, Int.reduceGT, Int.reduceGE, ↓reduceIte, decide_true, decide_false, eq_self, Nat.mul_one, Nat.zero_mul, Nat.one_mul, Int.le_refl, Nat.le_refl, Int.cast_ofNat_Int, e1, e2]
                first | done | trace_state
            · have hb := jbit_w hj (c := 2) (by decide)
              cases hB : jbit j 2 with
              | true =>
                rw [hB] at hb
                have e1 := day_not w (jbit j) k 2 (fun h => by rw [hB] at h; cases h.2)
                simp (decide := true) (maxSteps := 4000000) only [go_sem, Nat.reduceAdd, Nat.reduceSub, Nat.reduceMul, Nat.reduceDiv, Nat.reduceMod, Nat.reduceLT, Nat.reduceLeDiff, Nat.reduceEqDiff, Nat.reduceBEq, Nat.reduceBNe, Nat.reduceGT, Int.reduceAdd, Int.reduceSub, Int.reduceMul, Int.reduceNeg, Int.reduceLT, Int.reduceLE, Int.reduceEq, Int.reduceNe, Int.reduceBEq, Int.reduceBNe, Int.reduceToNat, Int.reduceGT, Int.reduceGE, ↓reduceIte, decide_true, decide_false, eq_self, Nat.mul_one, Nat.zero_mul, Nat.one_mul, Int.le_refl, Nat.le_refl, Int.cast_ofNat_Int, hM, hk0]
                refine condC_splitB (fun ht => (by cases hb.symm.trans ht)) (fun _ => ?_)
                simp (decide := true) (maxSteps := 4000000) only [go_sem, Nat.reduceAdd, Nat.reduceSub, Nat.reduceMul, Nat.reduceDiv, Nat.reduceMod, Nat.reduceLT, Nat.reduceLeDiff, Nat.reduceEqDiff, Nat.reduceBEq, Nat.reduceBNe, Nat.reduceGT, Int.reduceAdd, Int.reduceSub, Int.reduceMul, Int.reduceNeg, Int.reduceLT, Int.reduceLE, Int.reduceEq, Int.reduceNe, Int.reduceBEq, Int.reduceBNe, Int.reduceToNat, Int.reduceGT, Int.reduceGE, ↓reduceIte, decide_true, decide_false, eq_self, Nat.mul_one, Nat.zero_mul, Nat.one_mul, Int.le_refl, Nat.le_refl, Int.cast_ofNat_Int]
                refine hI2 _ ⟨3, by omega⟩ (by simp only; omega) ?_
                simp (decide := true) (maxSteps := 4000000) only [go_sem, Nat.reduceAdd, Nat.reduceSub, Nat.reduceMul, Nat.reduceDiv, Nat.reduceMod, Nat.reduceLT, Nat.reduceLeDiff, Nat.reduceEqDiff, Nat.reduceBEq, Nat.reduceBNe, Nat.reduceGT, Int.reduceAdd, Int.reduceSub, Int.reduceMul, Int.reduceNeg, Int.reduceLT, Int.reduceLE, Int.reduceEq, Int.reduceNe, Int.reduceBEq, Int.reduceBNe, Int.reduceToNat, Int.reduceGT, Int.reduceGE, ↓reduceIte, decide_true, decide_false, eq_self, Nat.mul_one, Nat.zero_mul, Nat.one_mul, Int.le_refl, Nat.le_refl, Int.cast_ofNat_Int, e1, hM]
              | false =>
                rw [hB] at hb
                obtain ⟨e1, e2⟩ := day_act w (jbit j) k 2 ⟨hk0', hB⟩ (2 : Int) rfl (s := w.r2) rfl (X := X) (N := N) hM
                simp (decide := true) (maxSteps := 4000000) only [go_sem, Nat.reduceAdd, Nat.reduceSub, Nat.reduceMul, Nat.reduceDiv, Nat.reduceMod, Nat.reduceLT, Nat.reduceLeDiff, Nat.reduceEqDiff, Nat.reduceBEq, Nat.reduceBNe, Nat.reduceGT, Int.reduceAdd, Int.reduceSub, Int.reduceMul, Int.reduceNeg, Int.reduceLT, Int.reduceLE, Int.reduceEq, Int.reduceNe, Int.reduceBEq, Int.reduceBNe, Int.reduceToNat, Int.reduceGT, Int.reduceGE, ↓reduceIte, decide_true, decide_false, eq_self, Nat.mul_one, Nat.zero_mul, Nat.one_mul, Int.le_refl, Nat.le_refl, Int.cast_ofNat_Int, hM, hk0]
                refine condC_splitB (fun _ => ?_) (fun ht => (by cases hb.symm.trans ht))
                simp (decide := true) (maxSteps := 4000000) only [go_sem, Nat.reduceAdd, Nat.reduceSub, Nat.reduceMul, Nat.reduceDiv, Nat.reduceMod, Nat.reduceLT, Nat.reduceLeDiff, Nat.reduceEqDiff, Nat.reduceBEq, Nat.reduceBNe, Nat.reduceGT, Int.reduceAdd, Int.reduceSub, Int.reduceMul, Int.reduceNeg, Int.reduceLT, Int.reduceLE, Int.reduceEq, Int.reduceNe, Int.reduceBEq, Int.reduceBNe, Int.reduceToNat, Int.reduceGT, Int.reduceGE, ↓reduceIte, decide_true, decide_false, eq_self, Nat.mul_one, Nat.zero_mul, Nat.one_mul, Int.le_refl, Nat.le_refl, Int.cast_ofNat_Int, hw1, hkk, (show -4000000000000000000 ≤ w.r2.lo ∧ w.r2.lo ≤ 4000000000000000000 from r0), hNm, k3]
                refine hI2 _ ⟨3, by omega⟩ (by simp only; omega) ?_
                simp (decide := true) (maxSteps := 4000000) only [go_sem, Nat.reduceAdd, Nat.reduceSub, Nat.reduceMul, Nat.reduceDiv, Nat.reduceMod, Nat.reduceLT, Nat.reduceLeDiff, Nat.reduceEqDiff, Nat.reduceBEq, Nat.reduceBNe, Nat.reduceGT, Int.reduceAdd, Int.reduceSub, Int.reduceMul, Int.reduceNeg, Int.reduceLT, Int.reduceLE, Int.reduceEq, Int.reduceNe, Int.reduceBEq, Int.reduceBNe, Int.reduceToNat, Int.reduceGT, Int.reduceGE, ↓reduceIte, decide_true, decide_false, eq_self, Nat.mul_one, Nat.zero_mul, Nat.one_mul, Int.le_refl, Nat.le_refl, Int.cast_ofNat_Int, e1, e2]
                first | done | trace_state
          · have hk0' : ¬ (0 < k) := by omega
            rcases (by omega : c = 0 ∨ c = 1 ∨ c = 2) with rfl | rfl | rfl
            · have e1 := day_not w (jbit j) k 0 (fun h => hk0' h.1)
              simp (decide := true) (maxSteps := 4000000) only [go_sem, Nat.reduceAdd, Nat.reduceSub, Nat.reduceMul, Nat.reduceDiv, Nat.reduceMod, Nat.reduceLT, Nat.reduceLeDiff, Nat.reduceEqDiff, Nat.reduceBEq, Nat.reduceBNe, Nat.reduceGT, Int.reduceAdd, Int.reduceSub, Int.reduceMul, Int.reduceNeg, Int.reduceLT, Int.reduceLE, Int.reduceEq, Int.reduceNe, Int.reduceBEq, Int.reduceBNe, Int.reduceToNat, Int.reduceGT, Int.reduceGE, ↓reduceIte, decide_true, decide_false, eq_self, Nat.mul_one, Nat.zero_mul, Nat.one_mul, Int.le_refl, Nat.le_refl, Int.cast_ofNat_Int, hM, hk0]
              refine hI2 _ ⟨1, by omega⟩ (by simp only; omega) ?_
              simp (decide := true) (maxSteps := 4000000) only [go_sem, Nat.reduceAdd, Nat.reduceSub, Nat.reduceMul, Nat.reduceDiv, Nat.reduceMod, Nat.reduceLT, Nat.reduceLeDiff, Nat.reduceEqDiff, Nat.reduceBEq, Nat.reduceBNe, Nat.reduceGT, Int.reduceAdd, Int.reduceSub, Int.reduceMul, Int.reduceNeg, Int.reduceLT, Int.reduceLE, Int.reduceEq, Int.reduceNe, Int.reduceBEq, Int.reduceBNe, Int.reduceToNat, Int.reduceGT, Int.reduceGE, ↓reduceIte, decide_true, decide_false, eq_self, Nat.mul_one, Nat.zero_mul, Nat.one_mul, Int.le_refl, Nat.le_refl, Int.cast_ofNat_Int, e1, hM]
            · have e1 := day_not w (jbit j) k 1 (fun h => hk0' h.1)
              simp (decide := true) (maxSteps := 4000000) only [go_sem, Nat.reduceAdd, Nat.reduceSub, Nat.reduceMul, Nat.reduceDiv, Nat.reduceMod, Nat.reduceLT, Nat.reduceLeDiff, Nat.reduceEqDiff, Nat.reduceBEq, Nat.reduceBNe, Nat.reduceGT, Int.reduceAdd, Int.reduceSub, Int.reduceMul, Int.reduceNeg, Int.reduceLT, Int.reduceLE, Int.reduceEq, Int.reduceNe, Int.reduceBEq, Int.reduceBNe, Int.reduceToNat, Int.reduceGT, Int.reduceGE, ↓reduceIte, decide_true, decide_false, eq_self, Nat.mul_one, Nat.zero_mul, Nat.one_mul, Int.le_refl, Nat.le_refl, Int.cast_ofNat_Int, hM, hk0]
              refine hI2 _ ⟨2, by omega⟩ (by simp only; omega) ?_
              simp (decide := true) (maxSteps := 4000000) only [go_sem, Nat.reduceAdd, Nat.reduceSub, Nat.reduceMul, Nat.reduceDiv, Nat.reduceMod, Nat.reduceLT, Nat.reduceLeDiff, Nat.reduceEqDiff, Nat.reduceBEq, Nat.reduceBNe, Nat.reduceGT, Int.reduceAdd, Int.reduceSub, Int.reduceMul, Int.reduceNeg, Int.reduceLT, Int.reduceLE, Int.reduceEq, Int.reduceNe, Int.reduceBEq, Int.reduceBNe, Int.reduceToNat, Int.reduceGT, Int.reduceGE, ↓reduceIte, decide_true, decide_false, eq_self, Nat.mul_one, Nat.zero_mul, Nat.one_mul, Int.le_refl, Nat.le_refl, Int.cast_ofNat_Int, e1, hM]
            · have e1 := day_not w (jbit j) k 2 (fun h => hk0' h.1)
              simp (decide := true) (maxSteps := 4000000) only [go_sem, Nat.reduceAdd, Nat.reduceSub, Nat.reduceMul, Nat.reduceDiv, Nat.reduceMod, Nat.reduceLT, Nat.reduceLeDiff, Nat.reduceEqDiff, Nat.reduceBEq, Nat.reduceBNe, Nat.reduceGT, Int.reduceAdd, Int.reduceSub, Int.reduceMul, Int.reduceNeg, Int.reduceLT, Int.reduceLE, Int.reduceEq, Int.reduceNe, Int.reduceBEq, Int.reduceBNe, Int.reduceToNat, Int.reduceGT, Int.reduceGE, ↓reduceIte, decide_true, decide_false, eq_self, Nat.mul_one, Nat.zero_mul, Nat.one_mul, Int.le_refl, Nat.le_refl, Int.cast_ofNat_Int, hM, hk0]
              refine hI2 _ ⟨3, by omega⟩ (by simp only; omega) ?_
              simp (decide := true) (maxSteps := 4000000) only [go_sem, Nat.reduceAdd, Nat.reduceSub, Nat.reduceMul, Nat.reduceDiv, Nat.reduceMod, Nat.reduceLT, Nat.reduceLeDiff, Nat.reduceEqDiff, Nat.reduceBEq, Nat.reduceBNe, Nat.reduceGT, Int.reduceAdd, Int.reduceSub, Int.reduceMul, Int.reduceNeg, Int.reduceLT, Int.reduceLE, Int.reduceEq, Int.reduceNe, Int.reduceBEq, Int.reduceBNe, Int.reduceToNat, Int.reduceGT, Int.reduceGE, ↓reduceIte, decide_true, decide_false, eq_self, Nat.mul_one, Nat.zero_mul, Nat.one_mul, Int.le_refl, Nat.le_refl, Int.cast_ofNat_Int, e1, hM]
        · have e3 : c = 3 := by omega
          subst e3
          simp (decide := true) (maxSteps := 4000000) only [go_sem, Nat.reduceAdd, Nat.reduceSub, Nat.reduceMul, Nat.reduceDiv, Nat.reduceMod, Nat.reduceLT, Nat.reduceLeDiff, Nat.reduceEqDiff, Nat.reduceBEq, Nat.reduceBNe, Nat.reduceGT, Int.reduceAdd, Int.reduceSub, Int.reduceMul, Int.reduceNeg, Int.reduceLT, Int.reduceLE, Int.reduceEq, Int.reduceNe, Int.reduceBEq, Int.reduceBNe, Int.reduceToNat, Int.reduceGT, Int.reduceGE, ↓reduceIte, decide_true, decide_false, eq_self, Nat.mul_one, Nat.zero_mul, Nat.one_mul, Int.le_refl, Nat.le_refl, Int.cast_ofNat_Int, hM]
          refine hQ2 _ _ ?_
          simp (decide := true) (maxSteps := 4000000) only [go_sem, Nat.reduceAdd, Nat.reduceSub, Nat.reduceMul, Nat.reduceDiv, Nat.reduceMod, Nat.reduceLT, Nat.reduceLeDiff, Nat.reduceEqDiff, Nat.reduceBEq, Nat.reduceBNe, Nat.reduceGT, Int.reduceAdd, Int.reduceSub, Int.reduceMul, Int.reduceNeg, Int.reduceLT, Int.reduceLE, Int.reduceEq, Int.reduceNe, Int.reduceBEq, Int.reduceBNe, Int.reduceToNat, Int.reduceGT, Int.reduceGE, ↓reduceIte, decide_true, decide_false, eq_self, Nat.mul_one, Nat.zero_mul, Nat.one_mul, Int.le_refl, Nat.le_refl, Int.cast_ofNat_Int]
          refine hI1 _ ⟨k + 1, by omega⟩ (by simp only; omega) ?_
          have hz : (rulesR w (jbit j) (k + 1)).flatMap W5.cs = X ++ (dayR w (jbit j) k 3).flatMap W5.cs := by rw [rulesR_succ, List.flatMap_append, hX]
          have hzn : (rulesR w (jbit j) (k + 1)).length = N + M := by rw [rulesR_succ, List.length_append, hN, hM]
          have hw9 : IntKind.i64.wrap ((k : Int) + 1) = ((k + 1 : Nat) : Int) := by rw [wrap_in (by omega) (by omega)]; omega
          simp (decide := true) (maxSteps := 4000000) only [go_sem, Nat.reduceAdd, Nat.reduceSub, Nat.reduceMul, Nat.reduceDiv, Nat.reduceMod, Nat.reduceLT, Nat.reduceLeDiff, Nat.reduceEqDiff, Nat.reduceBEq, Nat.reduceBNe, Nat.reduceGT, Int.reduceAdd, Int.reduceSub, Int.reduceMul, Int.reduceNeg, Int.reduceLT, Int.reduceLE, Int.reduceEq, Int.reduceNe, Int.reduceBEq, Int.reduceBNe, Int.reduceToNat, Int.reduceGT, Int.reduceGE, ↓reduceIte, decide_true, decide_false, eq_self, Nat.mul_one, Nat.zero_mul, Nat.one_mul, Int.le_refl, Nat.le_refl, Int.cast_ofNat_Int, hw9, hz, hzn]
    · have hkl : k = n := by omega
      subst hkl
      simp (decide := true) (maxSteps := 4000000) only [go_sem, Nat.reduceAdd, Nat.reduceSub, Nat.reduceMul, Nat.reduceDiv, Nat.reduceMod, Nat.reduceLT, Nat.reduceLeDiff, Nat.reduceEqDiff, Nat.reduceBEq, Nat.reduceBNe, Nat.reduceGT, Int.reduceAdd, Int.reduceSub, Int.reduceMul, Int.reduceNeg, Int.reduceLT, Int.reduceLE, Int.reduceEq, Int.reduceNe, Int.reduceBEq, Int.reduceBNe, Int.reduceToNat, Int.reduceGT, Int.reduceGE, ↓reduceIte, decide_true, decide_false, eq_self, Nat.mul_one, Nat.zero_mul, Nat.one_mul, Int.le_refl, Nat.le_refl, Int.cast_ofNat_Int, hlt]
      refine hQ1 _ _ ?_
      have hne : ¬ (rulesR w (jbit j) k).length = 0 := by
        obtain ⟨m, rfl⟩ : ∃ m, k = m + 1 := ⟨k - 1, by omega⟩
        rw [rulesR_succ, List.length_append]
        have : 4 ≤ (dayR w (jbit j) m 3).length := by unfold dayR; rw [List.length_append]; simp [cmpR, apR]
        omega
      simp (decide := true) (maxSteps := 4000000) only [go_sem, Nat.reduceAdd, Nat.reduceSub, Nat.reduceMul, Nat.reduceDiv, Nat.reduceMod, Nat.reduceLT, Nat.reduceLeDiff, Nat.reduceEqDiff, Nat.reduceBEq, Nat.reduceBNe, Nat.reduceGT, Int.reduceAdd, Int.reduceSub, Int.reduceMul, Int.reduceNeg, Int.reduceLT, Int.reduceLE, Int.reduceEq, Int.reduceNe, Int.reduceBEq, Int.reduceBNe, Int.reduceToNat, Int.reduceGT, Int.reduceGE, ↓reduceIte, decide_true, decide_false, eq_self, Nat.mul_one, Nat.zero_mul, Nat.one_mul, Int.le_refl, Nat.le_refl, Int.cast_ofNat_Int, hne]
      exact ⟨_, rfl, rfl⟩
end Go.Proofs.Ytadkjjnnnkfalaa

/- Part Kq. -/
namespace Go.Ok
/-- A rule: of is at most than and some more. -/
structure Rul where
  of : Nat
  than : Nat
  more : Int
def relax (b : Nat → Int) (r : Rul) : Nat → Int := fun v => if v = r.of then min (b r.of) (b r.than + r.more) else b v
def rnd (R : List Rul) (b : Nat → Int) : Nat → Int := R.foldl relax b
def rnds (R : List Rul) (b : Nat → Int) : Nat → (Nat → Int)
  | 0 => b
  | k + 1 => rnd R (rnds R b k)
def solves (f : Nat → Int) (R : List Rul) : Prop := ∀ r ∈ R, f r.of ≤ f r.than + r.more
theorem relax_le (b : Nat → Int) (r : Rul) (v : Nat) : relax b r v ≤ b v := by
  unfold relax
  split
  · rename_i h; subst h; omega
  · exact Int.le_refl _
theorem rnd_le : ∀ (R : List Rul) (b : Nat → Int) (v : Nat), rnd R b v ≤ b v
  | [], b, v => Int.le_refl _
  | r :: R, b, v => Int.le_trans (rnd_le R (relax b r) v) (relax_le b r v)
theorem relax_ge {f b : Nat → Int} {r : Rul} (hf : f r.of ≤ f r.than + r.more) (h : ∀ v, f v ≤ b v) (v : Nat) : f v ≤ relax b r v := by
  unfold relax
  split
  · rename_i e; subst e; have h1 := h r.of; have h2 := h r.than; omega
  · exact h v
theorem rnd_ge {f : Nat → Int} : ∀ (R : List Rul) (b : Nat → Int), solves f R → (∀ v, f v ≤ b v) → ∀ v, f v ≤ rnd R b v
  | [], b, _, h, v => h v
  | r :: R, b, hs, h, v => rnd_ge R (relax b r) (fun r' hr => hs r' (List.mem_cons_of_mem _ hr)) (relax_ge (hs r List.mem_cons_self) h) v
/-- What a round does not change solves the rules. -/
theorem steady_solves : ∀ (R : List Rul) (b : Nat → Int), (∀ v, rnd R b v = b v) → solves b R
  | [], b, _ => fun r hr => by cases hr
  | r :: R, b, h => by
    have h1 : ∀ v, relax b r v = b v := fun v => by
      have a := rnd_le R (relax b r) v
      have c := relax_le b r v
      have d := h v
      have e : rnd (r :: R) b v = rnd R (relax b r) v := rfl
      omega
    have h2 : relax b r = b := funext h1
    have h3 : solves b R := steady_solves R b fun v => by have d := h v; have e : rnd (r :: R) b v = rnd R (relax b r) v := rfl; rw [e, h2] at d; exact d
    intro r' hr
    rcases List.mem_cons.1 hr with rfl | hr
    · have := h1 r'.of
      unfold relax at this
      rw [if_pos rfl] at this
      omega
    · exact h3 r' hr
/-- Nodes below n alone are changed. -/
theorem rnd_out {n : Nat} : ∀ (R : List Rul) (b : Nat → Int), (∀ r ∈ R, r.of < n ∧ r.than < n) → ∀ v, n ≤ v → rnd R b v = b v
  | [], b, _, v, _ => rfl
  | r :: R, b, h, v, hv => by
    have e : rnd (r :: R) b v = rnd R (relax b r) v := rfl
    rw [e, rnd_out R _ (fun r' hr => h r' (List.mem_cons_of_mem _ hr)) v hv]
    unfold relax
    rw [if_neg]
    have := (h r List.mem_cons_self).1
    omega
/-- What has come to its end stays there. -/
theorem rnd_final {f : Nat → Int} (R : List Rul) (b : Nat → Int) (hs : solves f R) (h : ∀ v, f v ≤ b v) {v : Nat} (hv : b v = f v) : rnd R b v = f v := by
  have h1 := rnd_le R b v
  have h2 := rnd_ge R b hs h v
  omega
/-- If the ends that are met are closed under the rules, a round meets no other. -/
theorem rnd_closed {f : Nat → Int} {X : Nat → Prop} (R0 : List Rul) (hs : solves f R0) (hX : ∀ r ∈ R0, X r.than → f r.of = f r.than + r.more → X r.of) : ∀ (R : List Rul) (b : Nat → Int), (∀ r ∈ R, r ∈ R0) → (∀ v, f v ≤ b v) → (∀ v, b v = f v → X v) → ∀ v, rnd R b v = f v → X v
  | [], b, _, _, h, v, hv => h v hv
  | r :: R, b, hR, hb, h, v, hv => by
    have hr0 := hR r List.mem_cons_self
    refine rnd_closed R0 hs hX R (relax b r) (fun r' hr => hR r' (List.mem_cons_of_mem _ hr)) (relax_ge (hs r hr0) hb) (fun u hu => ?_) v hv
    unfold relax at hu
    split at hu
    · rename_i e; subst e
      have h1 := hs r hr0
      have h2 := hb r.than
      have h3 := hb r.of
      by_cases c : b r.of = f r.of
      · exact h _ c
      · have e1 : b r.than = f r.than := by omega
        exact hX r hr0 (h _ e1) (by omega)
    · exact h u hu
/-- A round that meets no new end: the ends that are met are closed. -/
theorem rnd_meets {f : Nat → Int} : ∀ (R : List Rul) (b : Nat → Int), solves f R → (∀ v, f v ≤ b v) → ∀ r ∈ R, b r.than = f r.than → f r.of = f r.than + r.more → rnd R b r.of = f r.of
  | [], _, _, _, r, hr, _, _ => by cases hr
  | r0 :: R, b, hs, hb, r, hr, h1, h2 => by
    have hs' : solves f R := fun r' hr => hs r' (List.mem_cons_of_mem _ hr)
    have hb' := relax_ge (hs r0 List.mem_cons_self) hb
    show rnd R (relax b r0) r.of = f r.of
    rcases List.mem_cons.1 hr with rfl | hr
    · refine rnd_final R _ hs' hb' ?_
      have h3 := hb' r.of
      unfold relax at h3 ⊢
      rw [if_pos rfl] at h3 ⊢
      have := hb r.of
      omega
    · refine rnd_meets R _ hs' hb' r hr ?_ h2
      have := hb' r.than
      have := relax_le b r0 r.than
      omega
/-- How many ends are met. -/
def met (n : Nat) (f b : Nat → Int) : Nat := (List.range n).countP fun v => decide (b v = f v)
theorem met_le (n : Nat) (f b : Nat → Int) : met n f b ≤ n := by
  have := List.countP_le_length (p := fun v => decide (b v = f v)) (l := List.range n)
  rwa [List.length_range] at this
theorem met_lt : ∀ (l : List Nat) (p q : Nat → Bool), (∀ v ∈ l, p v = true → q v = true) → (∃ v ∈ l, p v = false ∧ q v = true) → l.countP p < l.countP q
  | [], _, _, _, h => by obtain ⟨v, hv, _⟩ := h; cases hv
  | x :: l, p, q, h, h' => by
    have hm : l.countP p ≤ l.countP q := List.countP_mono_left fun v hv hp => h v (List.mem_cons_of_mem _ hv) hp
    rw [List.countP_cons, List.countP_cons]
    obtain ⟨v, hv, h1, h2⟩ := h'
    rcases List.mem_cons.1 hv with rfl | hv
    · rw [h1, h2]; simp; omega
    · have ih := met_lt l p q (fun v hv => h v (List.mem_cons_of_mem _ hv)) ⟨v, hv, h1, h2⟩
      have hx := h x List.mem_cons_self
      cases hp : p x <;> cases hq : q x <;> simp_all <;> omega
theorem met_all {n : Nat} {f b : Nat → Int} (h : met n f b = n) {v : Nat} (hv : v < n) : b v = f v := by
  unfold met at h
  have h2 : (List.range n).countP (fun v => decide (b v = f v)) = (List.range n).length := by rw [h, List.length_range]
  have := List.countP_eq_length.1 h2 v (List.mem_range.2 hv)
  simpa using this
theorem rnds_ge {f : Nat → Int} {R : List Rul} {b : Nat → Int} (hs : solves f R) (h : ∀ v, f v ≤ b v) : ∀ k v, f v ≤ rnds R b k v
  | 0, v => h v
  | k + 1, v => rnd_ge R _ hs (rnds_ge hs h k) v
theorem rnds_mono {R : List Rul} {b : Nat → Int} : ∀ (i k : Nat) (v : Nat), rnds R b (k + i) v ≤ rnds R b k v
  | 0, k, v => Int.le_refl _
  | i + 1, k, v => Int.le_trans (rnd_le R (rnds R b (k + i)) v) (rnds_mono i k v)
theorem rnds_out {n : Nat} {R : List Rul} {b : Nat → Int} (hn : ∀ r ∈ R, r.of < n ∧ r.than < n) : ∀ (k v : Nat), n ≤ v → rnds R b k v = b v
  | 0, _, _ => rfl
  | k + 1, v, hv => (rnd_out R _ hn v hv).trans (rnds_out hn k v hv)
/-- As many ends are met as rounds were made, or all. -/
theorem rnds_met {n : Nat} {f : Nat → Int} {R : List Rul} {b : Nat → Int} (hn : ∀ r ∈ R, r.of < n ∧ r.than < n) (hs : solves f R) (h : ∀ v, f v ≤ b v) {M : Nat} (hM : ∀ v, rnds R b M v = f v) :
    ∀ k, (∀ v, v < n → rnds R b k v = f v) ∨ k ≤ met n f (rnds R b k)
  | 0 => .inr (Nat.zero_le _)
  | k + 1 => by
    have hge := rnds_ge hs h
    have fin : ∀ v, rnds R b k v = f v → rnds R b (k + 1) v = f v := fun v hv => rnd_final R _ hs (hge k) hv
    rcases rnds_met hn hs h hM k with hl | hr
    · exact .inl fun v hv => fin v (hl v hv)
    · by_cases hnew : ∃ v ∈ List.range n, decide (rnds R b k v = f v) = false ∧ decide (rnds R b (k + 1) v = f v) = true
      · right
        have := met_lt (List.range n) (fun v => decide (rnds R b k v = f v)) (fun v => decide (rnds R b (k + 1) v = f v)) (fun v _ hv => by
          have : rnds R b k v = f v := by simpa using hv
          simpa using fin v this) hnew
        unfold met at hr ⊢
        omega
      · left
        have hno : ∀ v, v < n → rnds R b (k + 1) v = f v → rnds R b k v = f v := fun v hv he => by
          by_cases c : rnds R b k v = f v
          · exact c
          · exact (hnew ⟨v, List.mem_range.2 hv, by simpa using c, by simpa using he⟩).elim
        have hcl : ∀ r ∈ R, rnds R b k r.than = f r.than → f r.of = f r.than + r.more → rnds R b k r.of = f r.of := fun r hr h1 h2 =>
          hno _ (hn r hr).1 (rnd_meets R _ hs (hge k) r hr h1 h2)
        have hall : ∀ j v, rnds R b (k + j) v = f v → rnds R b k v = f v := by
          intro j
          induction j with
          | zero => intro v hv; exact hv
          | succ j ih => intro v hv; exact rnd_closed (X := fun v => rnds R b k v = f v) R hs hcl R (rnds R b (k + j)) (fun r hr => hr) (hge _) ih v hv
        intro v hv
        refine fin v (hall M v ?_)
        have h1 := rnds_mono (R := R) (b := b) k M v
        have h2 := hge (M + k) v
        have h3 := hM v
        rw [Nat.add_comm k M]
        omega
/-- A bound below. -/
theorem low_bound (p b : Nat → Int) : ∀ n : Nat, ∃ C : Int, ∀ v, v < n → p v - C ≤ b v
  | 0 => ⟨0, fun v h => by omega⟩
  | n + 1 => by
    obtain ⟨C, hC⟩ := low_bound p b n
    refine ⟨max C (p n - b n), fun v hv => ?_⟩
    by_cases e : v = n
    · subst e; omega
    · have := hC v (by omega); omega
theorem sum_lt : ∀ (l : List Nat) (p q : Nat → Nat), (∀ v ∈ l, p v ≤ q v) → (∃ v ∈ l, p v < q v) → (l.map p).sum < (l.map q).sum
  | [], _, _, _, h => by obtain ⟨v, hv, _⟩ := h; cases hv
  | x :: l, p, q, h, h' => by
    have hm : (l.map p).sum ≤ (l.map q).sum := by
      have : ∀ l : List Nat, (∀ v ∈ l, p v ≤ q v) → (l.map p).sum ≤ (l.map q).sum := fun l => by
        induction l with
        | nil => intro _; exact Nat.le_refl _
        | cons y l ih =>
          intro h
          rw [List.map_cons, List.map_cons, List.sum_cons, List.sum_cons]
          have := h y List.mem_cons_self
          have := ih fun v hv => h v (List.mem_cons_of_mem _ hv)
          omega
      exact this l fun v hv => h v (List.mem_cons_of_mem _ hv)
    rw [List.map_cons, List.map_cons, List.sum_cons, List.sum_cons]
    obtain ⟨v, hv, h1⟩ := h'
    rcases List.mem_cons.1 hv with rfl | hv
    · omega
    · have ih := sum_lt l p q (fun v hv => h v (List.mem_cons_of_mem _ hv)) ⟨v, hv, h1⟩
      have hx := h x List.mem_cons_self
      omega
theorem rnds_end {n : Nat} {P : Nat → Int} {R : List Rul} {b : Nat → Int} (hn : ∀ r ∈ R, r.of < n ∧ r.than < n) (hs : solves P R) (h : ∀ v, P v ≤ b v) : ∃ M, ∀ v, rnd R (rnds R b M) v = rnds R b M v := by
  have hge := rnds_ge hs h
  have key : ∀ s k, ((List.range n).map fun v => (rnds R b k v - P v).toNat).sum ≤ s → ∃ M, ∀ v, rnd R (rnds R b M) v = rnds R b M v := by
    intro s
    induction s with
    | zero =>
      intro k hk
      refine ⟨k, fun v => ?_⟩
      by_cases hv : v < n
      · apply Classical.byContradiction
        intro hne
        have h1 := rnd_le R (rnds R b k) v
        have h2 := rnd_ge R _ hs (hge k) v
        have : ((List.range n).map fun _ => 0).sum < ((List.range n).map fun v => (rnds R b k v - P v).toNat).sum := sum_lt _ _ _ (fun _ _ => Nat.zero_le _) ⟨v, List.mem_range.2 hv, by omega⟩
        omega
      · exact rnd_out R _ hn v (by omega)
    | succ s ih =>
      intro k hk
      by_cases hst : ∀ v, rnd R (rnds R b k) v = rnds R b k v
      · exact ⟨k, hst⟩
      · rw [Classical.not_forall] at hst
        obtain ⟨v, hv⟩ := hst
        have hvn : v < n := by
          rcases Nat.lt_or_ge v n with h' | h'
          · exact h'
          · exact (hv (rnd_out R _ hn v h')).elim
        refine ih (k + 1) ?_
        have := sum_lt (List.range n) (fun v => (rnds R b (k + 1) v - P v).toNat) (fun v => (rnds R b k v - P v).toNat) (fun u _ => by
          have := rnd_le R (rnds R b k) u
          have e : rnds R b (k + 1) u = rnd R (rnds R b k) u := rfl
          omega) ⟨v, List.mem_range.2 hvn, by
          have h1 := rnd_le R (rnds R b k) v
          have h2 := rnd_ge R _ hs (hge k) v
          have e : rnds R b (k + 1) v = rnd R (rnds R b k) v := rfl
          omega⟩
        omega
  exact key _ 0 (Nat.le_refl _)
/-- IF THE RULES HAVE A SOLUTION, n ROUNDS ARE ENOUGH: one more changes nothing. -/
theorem rnds_steady {n : Nat} {p : Nat → Int} {R : List Rul} {b : Nat → Int} (hn : ∀ r ∈ R, r.of < n ∧ r.than < n) (hs : solves p R) : ∀ v, rnd R (rnds R b n) v = rnds R b n v := by
  obtain ⟨C, hC⟩ := low_bound p b n
  have hs' : solves (fun v => if v < n then p v - C else b v) R := fun r hr => by
    have h1 := hn r hr
    have h2 := hs r hr
    simp only [h1.1, h1.2, if_true]
    omega
  have hle : ∀ v, (fun v => if v < n then p v - C else b v) v ≤ b v := fun v => by
    simp only
    split
    · exact hC v (by assumption)
    · exact Int.le_refl _
  obtain ⟨M, hM⟩ := rnds_end hn hs' hle
  have hf : solves (rnds R b M) R := steady_solves R _ hM
  have hfb : ∀ v, rnds R b M v ≤ b v := fun v => by have := rnds_mono (R := R) (b := b) M 0 v; rwa [Nat.zero_add] at this
  have hall : ∀ v, rnds R b n v = rnds R b M v := fun v => by
    by_cases hv : v < n
    · rcases rnds_met hn hf hfb (M := M) (fun _ => rfl) n with h | h
      · exact h v hv
      · exact met_all (Nat.le_antisymm (met_le _ _ _) h) hv
    · rw [rnds_out hn n v (by omega), rnds_out hn M v (by omega)]
  intro v
  have e : rnds R b n = rnds R b M := funext hall
  rw [e]; exact hM v
end Go.Ok

/- Part Kk. -/
namespace Go.Pm
open Go Go.RowKit
open Classical in
/-- A contract for one call alone. -/
noncomputable def shotH (ps0 : List PV) (hl0 : List PO) (r : PV × List PO) : List PV → List PO → Option (PV × List PO) := fun ps hl => if ps = ps0 ∧ hl = hl0 then some r else none
theorem shotH_ok {P : Program} {f : FuncId} {ps0 : List PV} {hl0 : List PO} {r : PV × List PO} (h : HCalls P f ps0 (getL hl0) r.1 (getL r.2)) : ∀ ps hl v hl', shotH ps0 hl0 r ps hl = some (v, hl') → HCalls P f ps (getL hl) v (getL hl') := by
  intro ps hl v hl' e
  unfold shotH at e
  split at e
  · rename_i hc; obtain ⟨rfl, rfl⟩ := hc; cases e; exact h
  · cases e
open Classical in
@[go_sem] theorem shotH_eq (ps0 : List PV) (hl0 : List PO) (r : PV × List PO) (ps : List PV) (hl : List PO) : shotH ps0 hl0 r ps hl = if ps = ps0 ∧ hl = hl0 then some r else none := rfl
end Go.Pm
namespace Go.Ok
open Go Go.RowKit Go.Pm Go.Oc Go.Oh Go.Os
/-- Sixty numbers in a variable. -/
def cellsF (f : Nat → Int) : List PV := (List.range 60).map fun v => .t (.int .i64 (f v))
def tvF (f : Nat → Int) : List TV := (List.range 60).map fun v => .int .i64 (f v)
theorem cellsF_len (f : Nat → Int) : (cellsF f).length = 60 := by simp [cellsF]
theorem tvF_len (f : Nat → Int) : (tvF f).length = 60 := by simp [tvF]
theorem tvF_map (f : Nat → Int) : (tvF f).map PV.t = cellsF f := by simp [tvF, cellsF]
theorem cellsF_at (f : Nat → Int) {o : Nat} (h : o < 60) : (cellsF f)[o]? = some (.t (.int .i64 (f o))) := by simp [cellsF, h]
theorem cellsF_take (f : Nat → Int) : (cellsF f).take 60 = cellsF f := List.take_of_length_le (by rw [cellsF_len]; exact Nat.le_refl _)
theorem allO_some {α β : Type} (g : α → β) : ∀ l : List α, allO (l.map fun x => some (g x)) = some (l.map g)
  | [] => rfl
  | x :: l => by simp [allO, allO_some g l]
theorem cellsF_agg (f : Nat → Int) : aggP false (cellsF f) = .t (.agg (tvF f)) := by
  unfold aggP cellsF tvF
  rw [List.map_map]
  have : (List.map (PV.toT ∘ fun v => PV.t (.int .i64 (f v))) (List.range 60)) = List.map (fun v => some (TV.int .i64 (f v))) (List.range 60) := rfl
  rw [this, allO_some]; rfl
theorem cellsF_all (f : Nat → Int) : allO ((cellsF f).map PV.toT) = some (tvF f) := by
  unfold cellsF tvF
  rw [List.map_map]
  have : (List.map (PV.toT ∘ fun v => PV.t (.int .i64 (f v))) (List.range 60)) = List.map (fun v => some (TV.int .i64 (f v))) (List.range 60) := rfl
  rw [this, allO_some]
theorem cells_self (l : List PO) : ∀ cs : List PV, cellsW l cs cs = True
  | [] => by simp [cellsW]
  | c :: cs => by
    have h : cellW l c c := by cases c <;> simp [cellW, PV.toT]
    simp [cellsW, h, cells_self l cs]
theorem cellsF_under (f : Nat → Int) (k : Nat) : (cellsF f).all (PV.under k) = true := by simp [cellsF, PV.under]
theorem cellsF_set (f : Nat → Int) {o : Nat} (h : o < 60) (x : Int) : (cellsF f).take o ++ [.t (.int .i64 x)] ++ (cellsF f).drop (o + 1) = cellsF (fun v => if v = o then x else f v) := by
  apply List.ext_getElem?
  intro i
  have hl := cellsF_len f
  by_cases hi : i < o
  · rw [List.append_assoc, List.getElem?_append_left (by rw [List.length_take, hl]; omega), List.getElem?_take, if_pos hi, cellsF_at f (by omega), cellsF_at _ (by omega), if_neg (by omega)]
  · rw [List.append_assoc, List.getElem?_append_right (by rw [List.length_take, hl]; omega), List.length_take, hl, Nat.min_eq_left (by omega)]
    by_cases h2 : i = o
    · subst h2; rw [Nat.sub_self, cellsF_at _ h, if_pos rfl]; rfl
    · obtain ⟨m, hm⟩ : ∃ m, i - o = m + 1 := ⟨i - o - 1, by omega⟩
      rw [hm]
      show ((cellsF f).drop (o + 1))[m]? = _
      rw [List.getElem?_drop]
      by_cases h3 : i < 60
      · rw [show o + 1 + m = i by omega, cellsF_at _ h3, cellsF_at _ h3, if_neg h2]
      · rw [List.getElem?_eq_none (by rw [hl]; omega), List.getElem?_eq_none (by rw [cellsF_len]; omega)]
def W5.rul (r : W5) : Rul := ⟨(r.c * 20 + r.d).toNat, (r.c' * 20 + r.d').toNat, r.m⟩
/-- What rules are like. -/
def W5.ok (n : Nat) (r : W5) : Prop := (0 ≤ r.c ∧ r.c < 3) ∧ (0 ≤ r.d ∧ r.d < n) ∧ (0 ≤ r.c' ∧ r.c' < 3) ∧ (0 ≤ r.d' ∧ r.d' < n) ∧ (-2000000000 ≤ r.m ∧ r.m ≤ 2000000000)
def Wa.good (w : Wa) (n : Nat) : Prop := n ≤ w.F.length ∧ n ≤ w.S.length ∧ (∀ k, k < n → -1000000000 ≤ tempAt w.F k ∧ tempAt w.F k ≤ 1000000000) ∧ (∀ k, k < n → -1000000000 ≤ tempAt w.S k ∧ tempAt w.S k ≤ 1000000000) ∧ (0 ≤ w.wr ∧ w.wr ≤ 1000) ∧ ∀ c, -100000 ≤ (w.r c).lo ∧ (w.r c).lo ≤ (w.r c).hi ∧ (w.r c).hi ≤ 100000
theorem apR_ok {n : Nat} {c d c' d' : Int} {s : Span} (h1 : 0 ≤ c ∧ c < 3) (h2 : 0 ≤ d ∧ d < n) (h3 : 0 ≤ c' ∧ c' < 3) (h4 : 0 ≤ d' ∧ d' < n) (h5 : -2000000000 ≤ s.lo ∧ s.lo ≤ 2000000000) (h6 : -2000000000 ≤ s.hi ∧ s.hi ≤ 2000000000) : ∀ r ∈ apR c d c' d' s, r.ok n := by
  intro r hr
  simp only [apR, List.mem_cons, List.not_mem_nil, or_false] at hr
  rcases hr with rfl | rfl
  · exact ⟨h1, h2, h3, h4, h6⟩
  · exact ⟨h3, h4, h1, h2, by simp only; omega⟩
theorem rulesR_ok {w : Wa} {n : Nat} (hg : w.good n) (jb : Nat → Bool) : ∀ r ∈ rulesR w jb n, r.ok n := by
  obtain ⟨_, _, hF, hS, hw, hr⟩ := hg
  intro r hr'
  unfold rulesR at hr'
  obtain ⟨d, hd, hr'⟩ := List.mem_flatMap.1 hr'
  have hd := List.mem_range.1 hd
  have f1 := hF d hd
  have f2 := hS d hd
  unfold dayR at hr'
  rcases List.mem_append.1 hr' with hr' | hr'
  · unfold cmpR at hr'
    rcases List.mem_append.1 hr' with hr' | hr'
    · exact apR_ok (by omega) (by omega) (by omega) (by omega) (by simp only; omega) (by simp only; omega) r hr'
    · exact apR_ok (by omega) (by omega) (by omega) (by omega) (by simp only; omega) (by simp only; omega) r hr'
  · obtain ⟨c, hc, hr'⟩ := List.mem_flatMap.1 hr'
    have hc := List.mem_range.1 hc
    unfold rateR at hr'
    split at hr'
    · rename_i h0
      have f3 := hr c
      exact apR_ok (by omega) (by omega) (by omega) (by omega) (by omega) (by omega) r hr'
    · cases hr'
/-- How far numbers have come. -/
def bnd (f : Nat → Int) (C : Int) : Prop := ∀ v, -C ≤ f v ∧ f v ≤ 0
theorem relax_bnd {f : Nat → Int} {C : Int} {r : Rul} (h : bnd f C) (hr : -2000000000 ≤ r.more ∧ r.more ≤ 2000000000) : bnd (relax f r) (C + 2000000000) := fun v => by
  have h0 := h v
  have h1 := h r.of
  have h2 := h r.than
  unfold relax
  split <;> omega
theorem fold_bnd : ∀ (R : List Rul) {f : Nat → Int} {C : Int}, bnd f C → (∀ r ∈ R, -2000000000 ≤ r.more ∧ r.more ≤ 2000000000) → bnd (R.foldl relax f) (C + 2000000000 * (R.length : Int))
  | [], f, C, h, _ => fun v => by have := h v; simp only [List.foldl_nil, List.length_nil]; omega
  | r :: R, f, C, h, hr => fun v => by
    have := fold_bnd R (relax_bnd h (hr r List.mem_cons_self)) (fun r' h' => hr r' (List.mem_cons_of_mem _ h')) v
    simp only [List.foldl_cons, List.length_cons]; omega
theorem rnds_bnd {R : List Rul} (hl : R.length ≤ 200) (hr : ∀ r ∈ R, -2000000000 ≤ r.more ∧ r.more ≤ 2000000000) : ∀ i : Nat, bnd (rnds R (fun _ => 0) i) (400000000000 * (i : Int))
  | 0 => fun v => by simp [rnds]
  | i + 1 => fun v => by
    have := fold_bnd R (rnds_bnd hl hr i) hr v
    have e : rnds R (fun _ => 0) (i + 1) = R.foldl relax (rnds R (fun _ => 0) i) := rfl
    rw [e]; omega
def rulsR (w : Wa) (jb : Nat → Bool) (n : Nat) : List Rul := (rulesR w jb n).map W5.rul
def steadyAt (R : List Rul) (i : Nat) : Prop := ∀ v, v < 60 → rnds R (fun _ => 0) (i + 1) v = rnds R (fun _ => 0) i v
open Classical in
/-- Does it come to rest? -/
noncomputable def canB (w : Wa) (j : Int) (n : Nat) : Bool := decide (∃ i, i < 61 ∧ steadyAt (rulsR w (jbit j) n) i)
theorem W5_at {l : List W5} {k : Nat} {r : W5} (h : l[k]? = some r) : (l.flatMap W5.cs).drop (k * 5) = r.cs ++ (l.drop (k + 1)).flatMap W5.cs := flat_at W5.cs (n := 5) (fun _ => rfl) h
end Go.Ok
namespace Go.Proofs.Ytadkjjnnnkfalaa
open Go.RowKit Go.Pm Go.Oc Go.Oh Go.Os Go.Ok
set_option maxRecDepth 100000
set_option linter.unusedVariables false
set_option maxHeartbeats 8000000

open Classical in
theorem eqAs_60 (f g : Nat → Int) : ∀ k i : Nat, i + k = 60 → eqAs Try.prog (eqT Try.prog 19) (tvF f) (tvF g) 3 1 k i = some (decide (∀ v, i ≤ v → v < 60 → f v = g v))
  | 0, i, h => by
    unfold eqAs
    rw [decide_eq_true]
    intro v h1 h2; omega
  | k + 1, i, h => by
    have ih := eqAs_60 f g k (i + 1) (by omega)
    unfold eqAs
    have p : ∀ q : Nat → Int, partT Try.prog 3 (tvF q) (i * 1) = some (.int .i64 (q i)) := fun q => by
      have e : partT Try.prog 3 (tvF q) (i * 1) = (tvF q)[i * 1]? := rfl
      rw [e, Nat.mul_one]
      unfold tvF
      rw [List.getElem?_map, List.getElem?_range (by omega)]; rfl
    rw [p f, p g]
    have e2 : eqT Try.prog 19 3 (.int .i64 (f i)) (.int .i64 (g i)) = some (f i == g i) := by kernel_rfl
    simp only [e2, ih]
    congr 1
    rw [Bool.eq_iff_iff]
    simp only [Bool.and_eq_true, beq_iff_eq, decide_eq_true_eq]
    constructor
    · rintro ⟨h1, h2⟩ v h3 h4
      by_cases h5 : v = i
      · subst h5; exact h1
      · exact h2 v (by omega) h4
    · intro h1
      exact ⟨h1 i (Nat.le_refl _) (by omega), fun v h3 h4 => h1 v (by omega) h4⟩
open Classical in
theorem eqT_60 (f g : Nat → Int) : eqT Try.prog 20 213 (.agg (tvF f)) (.agg (tvF g)) = some (decide (∀ v, v < 60 → f v = g v)) := by
  have e : eqT Try.prog 20 213 (.agg (tvF f)) (.agg (tvF g)) = eqAs Try.prog (eqT Try.prog 19) (tvF f) (tvF g) 3 1 60 0 := by kernel_rfl
  rw [e, eqAs_60 f g 60 0 rfl]
  congr 1
  exact decide_eq_decide.2 ⟨fun h v hv => h v (Nat.zero_le _) hv, fun h v _ hv => h v hv⟩
theorem key_when (a b : Int) : keyOk Try.prog 159 (.agg [.int .i64 a, .int .i64 b]) = true := by kernel_rfl

theorem kCan_c (w : Wa) (fF fS : Bool) (F : TV → Option TV) (j : Int) (hj : j = 0 ∨ j = 1 ∨ j = 2 ∨ j = 4) (days : Int) (n : Nat) (hg : w.good n) (h20 : n ≤ 20) (hn1 : 1 ≤ n)
    (hP : ∀ c d : Int, 0 ≤ c → c < 3 → 0 ≤ d → d < n → F (.agg [.int .i64 c, .int .i64 d]) = some (.int .i64 (c * 20 + d))) :
    HCalls Try.prog 69 [consP false (wCells (.sl (ints w.F) w.F.length fF) (.sl (ints w.S) w.S.length fS) w.wr w.r0 w.r1 w.r2 days 0), .t (.int .i64 n), .t (.int .i64 j)] (getL [.mp 159 F]) (.t (.bool (canB w j n))) (getL [.mp 159 F]) := by
  have hR := kRules_c w fF fS 159 F j hj days n hg.1 hg.2.1 h20 hn1 hg.2.2.1 hg.2.2.2.1 hg.2.2.2.2.1 (fun c => by have := hg.2.2.2.2.2 c; omega)
  have hok := rulesR_ok hg (jbit j)
  have hlen := rulesR_len w (jbit j) n
  generalize hRR : rulesR w (jbit j) n = R at *
  have hcan : canB w j n = @decide (∃ i, i < 61 ∧ steadyAt (R.map W5.rul) i) (Classical.propDecidable _) := by unfold canB rulsR; rw [hRR]
  rw [hcan]
  have hrb : ∀ r ∈ R.map W5.rul, -2000000000 ≤ r.more ∧ r.more ≤ 2000000000 := fun r hr => by
    obtain ⟨q, hq, rfl⟩ := List.mem_map.1 hr; exact (hok q hq).2.2.2.2
  have hb := rnds_bnd (R := R.map W5.rul) (by rw [List.length_map]; omega) hrb
  have hb2 := fun (i k : Nat) => fold_bnd ((R.map W5.rul).take k) (hb i) (fun r hr => hrb r (List.mem_of_mem_take hr))
  have hfl : (R.flatMap W5.cs).length = R.length * 5 := W5_len R
  have hz : cellsF (fun _ => 0) = List.replicate 60 (.t (.int .i64 0)) := by rfl
  refine hcalls_by Try.mixes (Spec.oneH_ok (shotH_ok (r := (_, [_])) hR) noSpec_ok) (fn := Try.f69) Try.func69 rfl (by kernel_rfl) (by show 3 ≤ _; decide) ?_
  simp (decide := true) (maxSteps := 4000000) only [go_sem, Nat.reduceAdd, Nat.reduceSub, Nat.reduceMul, Nat.reduceDiv, Nat.reduceMod, Nat.reduceLT, Nat.reduceLeDiff, Nat.reduceEqDiff, Nat.reduceBEq, Nat.reduceBNe, Nat.reduceGT, Int.reduceAdd, Int.reduceSub, Int.reduceMul, Int.reduceNeg, Int.reduceLT, Int.reduceLE, Int.reduceEq, Int.reduceNe, Int.reduceBEq, Int.reduceBNe, Int.reduceToNat, Int.reduceGT, Int.reduceGE, ↓reduceIte, decide_true, decide_false, eq_self, Nat.mul_one, Nat.zero_mul, Nat.one_mul, Int.le_refl, Nat.le_refl, Int.cast_ofNat_Int, Try.f69, wCells, consP, aggP, allO]
  have hc60 := cellsF_len
  have hagg := cellsF_all
  have htk := cellsF_take
  have htm := tvF_map
  have hset := fun f (o : Nat) (h : o < 60) x => cellsF_set f h x
  have hrs : ∀ i, rnds (R.map W5.rul) (fun _ => 0) (i + 1) = (R.map W5.rul).foldl relax (rnds (R.map W5.rul) (fun _ => 0) i) := fun _ => rfl
  have hr0 : rnds (R.map W5.rul) (fun _ => 0) 0 = fun _ => 0 := rfl
  have hsd : ∀ i, steadyAt (R.map W5.rul) i ↔ ∀ v, v < 60 → rnds (R.map W5.rul) (fun _ => 0) (i + 1) v = rnds (R.map W5.rul) (fun _ => 0) i v := fun _ => Iff.rfl
  generalize hQ : steadyAt (R.map W5.rul) = SA at *
  generalize hG : rnds (R.map W5.rul) (fun _ => 0) = RN at *
  refine pwpC_loopU (A := { i : Nat // i ≤ 61 ∧ ∀ i', i' < i → ¬ SA i' }) [3, 7, 8, 9] (fun i => [(19, .t (.int .i64 i.1))]) (fun i => [(2, .box (cellsF (RN i.1)))]) (fun i => 61 - i.1) ⟨0, by omega, fun i' h => by omega⟩ (by decide) (fun _ => by rfl) ?_ fun Q1 hQ1 ⟨i, hi, hns⟩ I1 hI1 => ?_
  · simp (decide := true) (maxSteps := 4000000) only [go_sem, Nat.reduceAdd, Nat.reduceSub, Nat.reduceMul, Nat.reduceDiv, Nat.reduceMod, Nat.reduceLT, Nat.reduceLeDiff, Nat.reduceEqDiff, Nat.reduceBEq, Nat.reduceBNe, Nat.reduceGT, Int.reduceAdd, Int.reduceSub, Int.reduceMul, Int.reduceNeg, Int.reduceLT, Int.reduceLE, Int.reduceEq, Int.reduceNe, Int.reduceBEq, Int.reduceBNe, Int.reduceToNat, Int.reduceGT, Int.reduceGE, ↓reduceIte, decide_true, decide_false, eq_self, Nat.mul_one, Nat.zero_mul, Nat.one_mul, Int.le_refl, Nat.le_refl, Int.cast_ofNat_Int, hr0, hz]
    first | done | trace_state
  · by_cases hlt : (i : Int) < 61
    · have hw1 : IntKind.i64.wrap ((i : Int) + 1) = ((i + 1 : Nat) : Int) := by rw [wrap_in (by omega) (by omega)]; omega
      simp (decide := true) (maxSteps := 4000000) only [go_sem, Nat.reduceAdd, Nat.reduceSub, Nat.reduceMul, Nat.reduceDiv, Nat.reduceMod, Nat.reduceLT, Nat.reduceLeDiff, Nat.reduceEqDiff, Nat.reduceBEq, Nat.reduceBNe, Nat.reduceGT, Int.reduceAdd, Int.reduceSub, Int.reduceMul, Int.reduceNeg, Int.reduceLT, Int.reduceLE, Int.reduceEq, Int.reduceNe, Int.reduceBEq, Int.reduceBNe, Int.reduceToNat, Int.reduceGT, Int.reduceGE, ↓reduceIte, decide_true, decide_false, eq_self, Nat.mul_one, Nat.zero_mul, Nat.one_mul, Int.le_refl, Nat.le_refl, Int.cast_ofNat_Int, hlt, hc60, hagg, htk, htm, List.append_nil]
      refine pwpC_loopU (A := { k : Nat // k ≤ R.length }) [3, 7, 8, 9, 10, 19, 22, 23] (fun k => [(24, .t (.int .i64 k.1))]) (fun k => [(2, .box (cellsF (((R.map W5.rul).take k.1).foldl relax (RN i))))]) (fun k => R.length - k.1) ⟨0, by omega⟩ (by decide) (fun _ => by rfl) ?_ fun Q2 hQ2 ⟨k, hk⟩ I2 hI2 => ?_
      · simp (decide := true) (maxSteps := 4000000) only [go_sem, Nat.reduceAdd, Nat.reduceSub, Nat.reduceMul, Nat.reduceDiv, Nat.reduceMod, Nat.reduceLT, Nat.reduceLeDiff, Nat.reduceEqDiff, Nat.reduceBEq, Nat.reduceBNe, Nat.reduceGT, Int.reduceAdd, Int.reduceSub, Int.reduceMul, Int.reduceNeg, Int.reduceLT, Int.reduceLE, Int.reduceEq, Int.reduceNe, Int.reduceBEq, Int.reduceBNe, Int.reduceToNat, Int.reduceGT, Int.reduceGE, ↓reduceIte, decide_true, decide_false, eq_self, Nat.mul_one, Nat.zero_mul, Nat.one_mul, Int.le_refl, Nat.le_refl, Int.cast_ofNat_Int, cells_self, cellsF_under]
      · by_cases hlt2 : (k : Int) < R.length
        · obtain ⟨r, hr⟩ : ∃ r, R[k]? = some r := ⟨_, List.getElem?_eq_getElem (by omega)⟩
          have hd := W5_at hr
          obtain ⟨q1, q2, q3, q4, q5⟩ := hok r (List.mem_of_getElem? hr)
          have p1 := hP r.c r.d q1.1 q1.2 q2.1 q2.2
          have p2 := hP r.c' r.d' q3.1 q3.2 q4.1 q4.2
          obtain ⟨o, ho⟩ : ∃ o : Nat, r.c * 20 + r.d = o := ⟨_, (Int.toNat_of_nonneg (by omega)).symm⟩
          obtain ⟨t, ht⟩ : ∃ t : Nat, r.c' * 20 + r.d' = t := ⟨_, (Int.toNat_of_nonneg (by omega)).symm⟩
          have ho6 : o < 60 := by omega
          have ht6 : t < 60 := by omega
          have hoi : (o : Int) < 60 := by omega
          have hti : (t : Int) < 60 := by omega
          rw [ho] at p1
          rw [ht] at p2
          have hB := hb2 i k t
          have htl : ((R.map W5.rul).take k).length = k := by rw [List.length_take, List.length_map]; omega
          rw [htl] at hB
          have htk2 : ((R.map W5.rul).take (k + 1)) = (R.map W5.rul).take k ++ [W5.rul r] := by
            rw [List.take_add_one, List.getElem?_map, hr]; rfl
          have hnx : ((R.map W5.rul).take (k + 1)).foldl relax (RN i) = fun v => if v = o then min (((R.map W5.rul).take k).foldl relax (RN i) o) (((R.map W5.rul).take k).foldl relax (RN i) t + r.m) else ((R.map W5.rul).take k).foldl relax (RN i) v := by
            rw [htk2, List.foldl_append]
            show relax _ _ = _
            unfold relax W5.rul
            simp only [ho, ht, Int.toNat_natCast]
          generalize ((R.map W5.rul).take k).foldl relax (RN i) = f at *
          have hao := cellsF_at f ho6
          have hat := cellsF_at f ht6
          have hw2 : IntKind.i64.wrap (f t + r.m) = f t + r.m := wrap_in (by omega) (by omega)
          have hw3 : IntKind.i64.wrap ((k : Int) + 1) = ((k + 1 : Nat) : Int) := by rw [wrap_in (by omega) (by omega)]; omega
          have hset1 := cellsF_set f ho6 (min (f o) (f t + r.m))
          simp only [List.append_assoc, List.cons_append, List.nil_append] at hset1
          have ho59 : o ≤ 59 := by omega
          simp (decide := true) (maxSteps := 4000000) only [go_sem, Nat.reduceAdd, Nat.reduceSub, Nat.reduceMul, Nat.reduceDiv, Nat.reduceMod, Nat.reduceLT, Nat.reduceLeDiff, Nat.reduceEqDiff, Nat.reduceBEq, Nat.reduceBNe, Nat.reduceGT, Int.reduceAdd, Int.reduceSub, Int.reduceMul, Int.reduceNeg, Int.reduceLT, Int.reduceLE, Int.reduceEq, Int.reduceNe, Int.reduceBEq, Int.reduceBNe, Int.reduceToNat, Int.reduceGT, Int.reduceGE, ↓reduceIte, decide_true, decide_false, eq_self, Nat.mul_one, Nat.zero_mul, Nat.one_mul, Int.le_refl, Nat.le_refl, Int.cast_ofNat_Int, hlt2, hd, W5.cs, key_when, p1, p2, hoi, hti, hao, hat, hw2, hc60, Nat.mul_one, List.append_assoc, ho59, hset1]
          refine hI2 _ ⟨k + 1, by omega⟩ (by simp only; omega) ?_
          simp (decide := true) (maxSteps := 4000000) only [go_sem, Nat.reduceAdd, Nat.reduceSub, Nat.reduceMul, Nat.reduceDiv, Nat.reduceMod, Nat.reduceLT, Nat.reduceLeDiff, Nat.reduceEqDiff, Nat.reduceBEq, Nat.reduceBNe, Nat.reduceGT, Int.reduceAdd, Int.reduceSub, Int.reduceMul, Int.reduceNeg, Int.reduceLT, Int.reduceLE, Int.reduceEq, Int.reduceNe, Int.reduceBEq, Int.reduceBNe, Int.reduceToNat, Int.reduceGT, Int.reduceGE, ↓reduceIte, decide_true, decide_false, eq_self, Nat.mul_one, Nat.zero_mul, Nat.one_mul, Int.le_refl, Nat.le_refl, Int.cast_ofNat_Int, hw3, hnx, cells_self, cellsF_under]
        · have hkl : k = R.length := by omega
          subst hkl
          have hfull : (R.map W5.rul).take R.length = R.map W5.rul := List.take_of_length_le (by rw [List.length_map]; exact Nat.le_refl _)
          have hrsi := hrs i
          simp (decide := true) (maxSteps := 4000000) only [go_sem, Nat.reduceAdd, Nat.reduceSub, Nat.reduceMul, Nat.reduceDiv, Nat.reduceMod, Nat.reduceLT, Nat.reduceLeDiff, Nat.reduceEqDiff, Nat.reduceBEq, Nat.reduceBNe, Nat.reduceGT, Int.reduceAdd, Int.reduceSub, Int.reduceMul, Int.reduceNeg, Int.reduceLT, Int.reduceLE, Int.reduceEq, Int.reduceNe, Int.reduceBEq, Int.reduceBNe, Int.reduceToNat, Int.reduceGT, Int.reduceGE, ↓reduceIte, decide_true, decide_false, eq_self, Nat.mul_one, Nat.zero_mul, Nat.one_mul, Int.le_refl, Nat.le_refl, Int.cast_ofNat_Int, hlt2]
          refine hQ2 _ _ ?_
          rw [hfull, ← hrsi] at *
          simp (decide := true) (maxSteps := 4000000) only [go_sem, Nat.reduceAdd, Nat.reduceSub, Nat.reduceMul, Nat.reduceDiv, Nat.reduceMod, Nat.reduceLT, Nat.reduceLeDiff, Nat.reduceEqDiff, Nat.reduceBEq, Nat.reduceBNe, Nat.reduceGT, Int.reduceAdd, Int.reduceSub, Int.reduceMul, Int.reduceNeg, Int.reduceLT, Int.reduceLE, Int.reduceEq, Int.reduceNe, Int.reduceBEq, Int.reduceBNe, Int.reduceToNat, Int.reduceGT, Int.reduceGE, ↓reduceIte, decide_true, decide_false, eq_self, Nat.mul_one, Nat.zero_mul, Nat.one_mul, Int.le_refl, Nat.le_refl, Int.cast_ofNat_Int, hc60, hagg, htk, htm, eqT_60]
          refine condC_splitB (fun ht => ?_) (fun ht => ?_)
          · have hs' := @of_decide_eq_true _ (_) ht
            have hex : ∃ i, i < 61 ∧ SA i := ⟨i, by omega, (hsd i).2 hs'⟩
            simp (decide := true) (maxSteps := 4000000) only [go_sem, Nat.reduceAdd, Nat.reduceSub, Nat.reduceMul, Nat.reduceDiv, Nat.reduceMod, Nat.reduceLT, Nat.reduceLeDiff, Nat.reduceEqDiff, Nat.reduceBEq, Nat.reduceBNe, Nat.reduceGT, Int.reduceAdd, Int.reduceSub, Int.reduceMul, Int.reduceNeg, Int.reduceLT, Int.reduceLE, Int.reduceEq, Int.reduceNe, Int.reduceBEq, Int.reduceBNe, Int.reduceToNat, Int.reduceGT, Int.reduceGE, ↓reduceIte, decide_true, decide_false, eq_self, Nat.mul_one, Nat.zero_mul, Nat.one_mul, Int.le_refl, Nat.le_refl, Int.cast_ofNat_Int]
            refine hQ1 _ _ ?_
            simp (decide := true) (maxSteps := 4000000) only [go_sem, Nat.reduceAdd, Nat.reduceSub, Nat.reduceMul, Nat.reduceDiv, Nat.reduceMod, Nat.reduceLT, Nat.reduceLeDiff, Nat.reduceEqDiff, Nat.reduceBEq, Nat.reduceBNe, Nat.reduceGT, Int.reduceAdd, Int.reduceSub, Int.reduceMul, Int.reduceNeg, Int.reduceLT, Int.reduceLE, Int.reduceEq, Int.reduceNe, Int.reduceBEq, Int.reduceBNe, Int.reduceToNat, Int.reduceGT, Int.reduceGE, ↓reduceIte, decide_true, decide_false, eq_self, Nat.mul_one, Nat.zero_mul, Nat.one_mul, Int.le_refl, Nat.le_refl, Int.cast_ofNat_Int, hex]
            exact ⟨_, rfl, rfl⟩
          · have hs' := @of_decide_eq_false _ (_) ht
            have hs : ¬ SA i := fun h => hs' ((hsd i).1 h)
            simp (decide := true) (maxSteps := 4000000) only [go_sem, Nat.reduceAdd, Nat.reduceSub, Nat.reduceMul, Nat.reduceDiv, Nat.reduceMod, Nat.reduceLT, Nat.reduceLeDiff, Nat.reduceEqDiff, Nat.reduceBEq, Nat.reduceBNe, Nat.reduceGT, Int.reduceAdd, Int.reduceSub, Int.reduceMul, Int.reduceNeg, Int.reduceLT, Int.reduceLE, Int.reduceEq, Int.reduceNe, Int.reduceBEq, Int.reduceBNe, Int.reduceToNat, Int.reduceGT, Int.reduceGE, ↓reduceIte, decide_true, decide_false, eq_self, Nat.mul_one, Nat.zero_mul, Nat.one_mul, Int.le_refl, Nat.le_refl, Int.cast_ofNat_Int]
            refine hI1 _ ⟨i + 1, by omega, fun i' h => ?_⟩ (by simp only; omega) ?_
            · by_cases h2 : i' = i
              · subst h2; exact hs
              · exact hns i' (by omega)
            · simp (decide := true) (maxSteps := 4000000) only [go_sem, Nat.reduceAdd, Nat.reduceSub, Nat.reduceMul, Nat.reduceDiv, Nat.reduceMod, Nat.reduceLT, Nat.reduceLeDiff, Nat.reduceEqDiff, Nat.reduceBEq, Nat.reduceBNe, Nat.reduceGT, Int.reduceAdd, Int.reduceSub, Int.reduceMul, Int.reduceNeg, Int.reduceLT, Int.reduceLE, Int.reduceEq, Int.reduceNe, Int.reduceBEq, Int.reduceBNe, Int.reduceToNat, Int.reduceGT, Int.reduceGE, ↓reduceIte, decide_true, decide_false, eq_self, Nat.mul_one, Nat.zero_mul, Nat.one_mul, Int.le_refl, Nat.le_refl, Int.cast_ofNat_Int, hw1, cells_self, cellsF_under]
    · simp (decide := true) (maxSteps := 4000000) only [go_sem, Nat.reduceAdd, Nat.reduceSub, Nat.reduceMul, Nat.reduceDiv, Nat.reduceMod, Nat.reduceLT, Nat.reduceLeDiff, Nat.reduceEqDiff, Nat.reduceBEq, Nat.reduceBNe, Nat.reduceGT, Int.reduceAdd, Int.reduceSub, Int.reduceMul, Int.reduceNeg, Int.reduceLT, Int.reduceLE, Int.reduceEq, Int.reduceNe, Int.reduceBEq, Int.reduceBNe, Int.reduceToNat, Int.reduceGT, Int.reduceGE, ↓reduceIte, decide_true, decide_false, eq_self, Nat.mul_one, Nat.zero_mul, Nat.one_mul, Int.le_refl, Nat.le_refl, Int.cast_ofNat_Int, hlt]
      refine hQ1 _ _ ?_
      have : ¬ ∃ i, i < 61 ∧ SA i := fun ⟨i', h1, h2⟩ => hns i' (by omega) h2
      simp (decide := true) (maxSteps := 4000000) only [go_sem, Nat.reduceAdd, Nat.reduceSub, Nat.reduceMul, Nat.reduceDiv, Nat.reduceMod, Nat.reduceLT, Nat.reduceLeDiff, Nat.reduceEqDiff, Nat.reduceBEq, Nat.reduceBNe, Nat.reduceGT, Int.reduceAdd, Int.reduceSub, Int.reduceMul, Int.reduceNeg, Int.reduceLT, Int.reduceLE, Int.reduceEq, Int.reduceNe, Int.reduceBEq, Int.reduceBNe, Int.reduceToNat, Int.reduceGT, Int.reduceGE, ↓reduceIte, decide_true, decide_false, eq_self, Nat.mul_one, Nat.zero_mul, Nat.one_mul, Int.le_refl, Nat.le_refl, Int.cast_ofNat_Int, this]
      exact ⟨_, rfl, rfl⟩
end Go.Proofs.Ytadkjjnnnkfalaa

/- Part Kl. -/
namespace Go.Ok
open Go Go.RowKit Go.Pm Go.Oc Go.Oh Go.Os
/-- The places of a watch. -/
noncomputable def plI (f : TV → Option TV) (c : Nat) : Nat → (TV → Option TV)
  | 0 => f
  | d + 1 => updT (plI f c d) (.agg [.int .i64 c, .int .i64 d]) (.int .i64 ((c : Int) * 20 + d))
noncomputable def plO (n : Nat) : Nat → (TV → Option TV)
  | 0 => fun _ => none
  | c + 1 => plI (plO n c) c n
theorem plI_at (f : TV → Option TV) (c : Nat) (c' d' : Int) : ∀ m : Nat, plI f c m (.agg [.int .i64 c', .int .i64 d']) = if c' = c ∧ 0 ≤ d' ∧ d' < m then some (.int .i64 (c' * 20 + d')) else f (.agg [.int .i64 c', .int .i64 d'])
  | 0 => by rw [if_neg (by omega)]; rfl
  | m + 1 => by
    have ih := plI_at f c c' d' m
    unfold plI updT
    by_cases h : c' = c ∧ d' = m
    · obtain ⟨rfl, rfl⟩ := h
      rw [if_pos rfl, if_pos ⟨rfl, by omega, by omega⟩]
    · rw [if_neg (fun e => h (by simpa using e)), ih]
      by_cases h2 : c' = c ∧ 0 ≤ d' ∧ d' < m
      · rw [if_pos h2, if_pos ⟨h2.1, h2.2.1, by omega⟩]
      · rw [if_neg h2, if_neg (by omega)]
theorem plO_at (n : Nat) (c' d' : Int) (h0 : 0 ≤ c') (h2 : 0 ≤ d') (h3 : d' < n) : ∀ m : Nat, c' < m → plO n m (.agg [.int .i64 c', .int .i64 d']) = some (.int .i64 (c' * 20 + d'))
  | 0, h => by omega
  | m + 1, h => by
    have ih := plO_at n c' d' h0 h2 h3 m
    unfold plO
    rw [plI_at]
    by_cases h4 : c' = m
    · rw [if_pos ⟨h4, h2, h3⟩]
    · rw [if_neg (fun e => h4 e.1)]; exact ih (by omega)
def Wa.cs (w : Wa) (fF fS : Bool) : List TV := [.sl (ints w.F) w.F.length fF, .sl (ints w.S) w.S.length fS, .int .i64 w.wr, .int .i64 w.r0.lo, .int .i64 w.r0.hi, .int .i64 w.r1.lo, .int .i64 w.r1.hi, .int .i64 w.r2.lo, .int .i64 w.r2.hi]
/-- A watch that is one. -/
structure GoodW (w : Wa) (n : Nat) : Prop where
  n2 : 2 ≤ n
  n20 : n ≤ 20
  fl : w.F.length = n
  sl : w.S.length = n
  fb : ∀ k, k < n → -1000000000 ≤ tempAt w.F k ∧ tempAt w.F k ≤ 1000000000
  sb : ∀ k, k < n → -1000000000 ≤ tempAt w.S k ∧ tempAt w.S k ≤ 1000000000
  wb : 0 ≤ w.wr ∧ w.wr ≤ 1000
  r0 : spannedB w.r0 (-100000) 100000 = true
  r1 : spannedB w.r1 (-100000) 100000 = true
  r2 : spannedB w.r2 (-100000) 100000 = true
theorem GoodW.good {w : Wa} {n : Nat} (h : GoodW w n) : ∀ m, m ≤ n → w.good m := fun m hm => by
  have h0 := spannedB_iff.1 h.r0
  have h1 := spannedB_iff.1 h.r1
  have h2 := spannedB_iff.1 h.r2
  refine ⟨by rw [h.fl]; exact hm, by rw [h.sl]; exact hm, fun k hk => h.fb k (by omega), fun k hk => h.sb k (by omega), h.wb, fun c => ?_⟩
  match c with
  | 0 => exact h0
  | 1 => exact h1
  | c + 2 => exact h2
end Go.Ok
namespace Go.Proofs.Ytadkjjnnnkfalaa
open Go.RowKit Go.Pm Go.Oc Go.Oh Go.Os Go.Ok
set_option maxRecDepth 100000
set_option linter.unusedVariables false
set_option maxHeartbeats 8000000

theorem kWatched_c (w : Wa) (fF fS : Bool) (n : Nat) (hg : GoodW w n) :
    HCalls Try.prog 67 [.t (.agg (w.cs fF fS))] (getL []) (.cons true (consP false (wCells (.sl (ints w.F) w.F.length fF) (.sl (ints w.S) w.S.length fS) w.wr w.r0 w.r1 w.r2 n 2)) (.cons true (.t (.int .i64 0)) (.nil true)))
      (getL [.box [.junk, .junk, .junk, .junk, .junk, .junk, .junk, .junk, .junk], .box [.junk, .junk, .junk, .junk, .junk, .junk, .junk, .junk, .junk, .junk, .junk], .mp 159 (plO n 3)]) := by
  obtain ⟨n2, n20, hfl, hsl, fb, sb, wb, r0, r1, r2⟩ := hg
  have i1 : inB (n : Int) 2 20 = true := inB_iff.2 (by omega)
  have i2 : inB w.wr 0 1000 = true := inB_iff.2 wb
  refine hcalls_by Try.mixes spKa_ok (fn := Try.f67) Try.func67 rfl (by kernel_rfl) (by show 1 ≤ _; decide) ?_
  simp (decide := true) (maxSteps := 4000000) only [go_sem, Nat.reduceAdd, Nat.reduceSub, Nat.reduceMul, Nat.reduceDiv, Nat.reduceMod, Nat.reduceLT, Nat.reduceLeDiff, Nat.reduceEqDiff, Nat.reduceBEq, Nat.reduceBNe, Nat.reduceGT, Int.reduceAdd, Int.reduceSub, Int.reduceMul, Int.reduceNeg, Int.reduceLT, Int.reduceLE, Int.reduceEq, Int.reduceNe, Int.reduceBEq, Int.reduceBNe, Int.reduceToNat, Int.reduceGT, Int.reduceGE, ↓reduceIte, decide_true, decide_false, eq_self, Nat.mul_one, Nat.zero_mul, Nat.one_mul, Int.le_refl, Nat.le_refl, Int.cast_ofNat_Int, Try.f67, Wa.cs, hfl, hsl, i1, i2]
  refine pwpC_loopU (A := { i : Nat // i ≤ 2 }) [1, 2, 3, 4, 5, 40] (fun i => [(41, .t (.int .i64 i.1))]) (fun _ => []) (fun i => 2 - i.1) ⟨0, by omega⟩ (by decide) (fun _ => by rfl) ?_ fun Q1 hQ1 ⟨i, hi⟩ I1 hI1 => ?_
  · simp (decide := true) (maxSteps := 4000000) only [go_sem, Nat.reduceAdd, Nat.reduceSub, Nat.reduceMul, Nat.reduceDiv, Nat.reduceMod, Nat.reduceLT, Nat.reduceLeDiff, Nat.reduceEqDiff, Nat.reduceBEq, Nat.reduceBNe, Nat.reduceGT, Int.reduceAdd, Int.reduceSub, Int.reduceMul, Int.reduceNeg, Int.reduceLT, Int.reduceLE, Int.reduceEq, Int.reduceNe, Int.reduceBEq, Int.reduceBNe, Int.reduceToNat, Int.reduceGT, Int.reduceGE, ↓reduceIte, decide_true, decide_false, eq_self, Nat.mul_one, Nat.zero_mul, Nat.one_mul, Int.le_refl, Nat.le_refl, Int.cast_ofNat_Int]
  · rcases (by omega : i = 0 ∨ i = 1 ∨ i = 2) with rfl | rfl | rfl
    ·
      simp (decide := true) (maxSteps := 4000000) only [go_sem, Nat.reduceAdd, Nat.reduceSub, Nat.reduceMul, Nat.reduceDiv, Nat.reduceMod, Nat.reduceLT, Nat.reduceLeDiff, Nat.reduceEqDiff, Nat.reduceBEq, Nat.reduceBNe, Nat.reduceGT, Int.reduceAdd, Int.reduceSub, Int.reduceMul, Int.reduceNeg, Int.reduceLT, Int.reduceLE, Int.reduceEq, Int.reduceNe, Int.reduceBEq, Int.reduceBNe, Int.reduceToNat, Int.reduceGT, Int.reduceGE, ↓reduceIte, decide_true, decide_false, eq_self, Nat.mul_one, Nat.zero_mul, Nat.one_mul, Int.le_refl, Nat.le_refl, Int.cast_ofNat_Int]
      refine pwpC_loopU (A := { k : Nat // k ≤ n }) [1, 2, 3, 4, 5, 40, 41, 44, 45] (fun k => [(46, .t (.int .i64 k.1))]) (fun _ => []) (fun k => n - k.1) ⟨0, by omega⟩ (by decide) (fun _ => by rfl) ?_ fun Q2 hQ2 ⟨k, hk⟩ I2 hI2 => ?_
      · simp (decide := true) (maxSteps := 4000000) only [go_sem, Nat.reduceAdd, Nat.reduceSub, Nat.reduceMul, Nat.reduceDiv, Nat.reduceMod, Nat.reduceLT, Nat.reduceLeDiff, Nat.reduceEqDiff, Nat.reduceBEq, Nat.reduceBNe, Nat.reduceGT, Int.reduceAdd, Int.reduceSub, Int.reduceMul, Int.reduceNeg, Int.reduceLT, Int.reduceLE, Int.reduceEq, Int.reduceNe, Int.reduceBEq, Int.reduceBNe, Int.reduceToNat, Int.reduceGT, Int.reduceGE, ↓reduceIte, decide_true, decide_false, eq_self, Nat.mul_one, Nat.zero_mul, Nat.one_mul, Int.le_refl, Nat.le_refl, Int.cast_ofNat_Int]
      · by_cases hlt : (k : Int) < n
        · obtain ⟨x, hx⟩ : ∃ x, w.F[k]? = some x := ⟨_, List.getElem?_eq_getElem (by omega)⟩
          have hd := ints_at hx
          rw [Nat.mul_one] at hd
          have hb := fb k (by omega)
          rw [tempAt_eq hx] at hb
          have hi : inB x (-1000000000) 1000000000 = true := inB_iff.2 hb
          have hw3 : IntKind.i64.wrap ((k : Int) + 1) = ((k + 1 : Nat) : Int) := by rw [wrap_in (by omega) (by omega)]; omega
          simp (decide := true) (maxSteps := 4000000) only [go_sem, Nat.reduceAdd, Nat.reduceSub, Nat.reduceMul, Nat.reduceDiv, Nat.reduceMod, Nat.reduceLT, Nat.reduceLeDiff, Nat.reduceEqDiff, Nat.reduceBEq, Nat.reduceBNe, Nat.reduceGT, Int.reduceAdd, Int.reduceSub, Int.reduceMul, Int.reduceNeg, Int.reduceLT, Int.reduceLE, Int.reduceEq, Int.reduceNe, Int.reduceBEq, Int.reduceBNe, Int.reduceToNat, Int.reduceGT, Int.reduceGE, ↓reduceIte, decide_true, decide_false, eq_self, Nat.mul_one, Nat.zero_mul, Nat.one_mul, Int.le_refl, Nat.le_refl, Int.cast_ofNat_Int, hlt, hd, hi]
          refine hI2 _ ⟨k + 1, by omega⟩ (by simp only; omega) ?_
          simp (decide := true) (maxSteps := 4000000) only [go_sem, Nat.reduceAdd, Nat.reduceSub, Nat.reduceMul, Nat.reduceDiv, Nat.reduceMod, Nat.reduceLT, Nat.reduceLeDiff, Nat.reduceEqDiff, Nat.reduceBEq, Nat.reduceBNe, Nat.reduceGT, Int.reduceAdd, Int.reduceSub, Int.reduceMul, Int.reduceNeg, Int.reduceLT, Int.reduceLE, Int.reduceEq, Int.reduceNe, Int.reduceBEq, Int.reduceBNe, Int.reduceToNat, Int.reduceGT, Int.reduceGE, ↓reduceIte, decide_true, decide_false, eq_self, Nat.mul_one, Nat.zero_mul, Nat.one_mul, Int.le_refl, Nat.le_refl, Int.cast_ofNat_Int, hw3]
        · simp (decide := true) (maxSteps := 4000000) only [go_sem, Nat.reduceAdd, Nat.reduceSub, Nat.reduceMul, Nat.reduceDiv, Nat.reduceMod, Nat.reduceLT, Nat.reduceLeDiff, Nat.reduceEqDiff, Nat.reduceBEq, Nat.reduceBNe, Nat.reduceGT, Int.reduceAdd, Int.reduceSub, Int.reduceMul, Int.reduceNeg, Int.reduceLT, Int.reduceLE, Int.reduceEq, Int.reduceNe, Int.reduceBEq, Int.reduceBNe, Int.reduceToNat, Int.reduceGT, Int.reduceGE, ↓reduceIte, decide_true, decide_false, eq_self, Nat.mul_one, Nat.zero_mul, Nat.one_mul, Int.le_refl, Nat.le_refl, Int.cast_ofNat_Int, hlt]
          refine hQ2 _ _ ?_
          simp (decide := true) (maxSteps := 4000000) only [go_sem, Nat.reduceAdd, Nat.reduceSub, Nat.reduceMul, Nat.reduceDiv, Nat.reduceMod, Nat.reduceLT, Nat.reduceLeDiff, Nat.reduceEqDiff, Nat.reduceBEq, Nat.reduceBNe, Nat.reduceGT, Int.reduceAdd, Int.reduceSub, Int.reduceMul, Int.reduceNeg, Int.reduceLT, Int.reduceLE, Int.reduceEq, Int.reduceNe, Int.reduceBEq, Int.reduceBNe, Int.reduceToNat, Int.reduceGT, Int.reduceGE, ↓reduceIte, decide_true, decide_false, eq_self, Nat.mul_one, Nat.zero_mul, Nat.one_mul, Int.le_refl, Nat.le_refl, Int.cast_ofNat_Int]
          refine hI1 _ ⟨1, by omega⟩ (by simp only; omega) ?_
          simp (decide := true) (maxSteps := 4000000) only [go_sem, Nat.reduceAdd, Nat.reduceSub, Nat.reduceMul, Nat.reduceDiv, Nat.reduceMod, Nat.reduceLT, Nat.reduceLeDiff, Nat.reduceEqDiff, Nat.reduceBEq, Nat.reduceBNe, Nat.reduceGT, Int.reduceAdd, Int.reduceSub, Int.reduceMul, Int.reduceNeg, Int.reduceLT, Int.reduceLE, Int.reduceEq, Int.reduceNe, Int.reduceBEq, Int.reduceBNe, Int.reduceToNat, Int.reduceGT, Int.reduceGE, ↓reduceIte, decide_true, decide_false, eq_self, Nat.mul_one, Nat.zero_mul, Nat.one_mul, Int.le_refl, Nat.le_refl, Int.cast_ofNat_Int]
    ·
      simp (decide := true) (maxSteps := 4000000) only [go_sem, Nat.reduceAdd, Nat.reduceSub, Nat.reduceMul, Nat.reduceDiv, Nat.reduceMod, Nat.reduceLT, Nat.reduceLeDiff, Nat.reduceEqDiff, Nat.reduceBEq, Nat.reduceBNe, Nat.reduceGT, Int.reduceAdd, Int.reduceSub, Int.reduceMul, Int.reduceNeg, Int.reduceLT, Int.reduceLE, Int.reduceEq, Int.reduceNe, Int.reduceBEq, Int.reduceBNe, Int.reduceToNat, Int.reduceGT, Int.reduceGE, ↓reduceIte, decide_true, decide_false, eq_self, Nat.mul_one, Nat.zero_mul, Nat.one_mul, Int.le_refl, Nat.le_refl, Int.cast_ofNat_Int]
      refine pwpC_loopU (A := { k : Nat // k ≤ n }) [1, 2, 3, 4, 5, 40, 41, 44, 45] (fun k => [(46, .t (.int .i64 k.1))]) (fun _ => []) (fun k => n - k.1) ⟨0, by omega⟩ (by decide) (fun _ => by rfl) ?_ fun Q2 hQ2 ⟨k, hk⟩ I2 hI2 => ?_
      · simp (decide := true) (maxSteps := 4000000) only [go_sem, Nat.reduceAdd, Nat.reduceSub, Nat.reduceMul, Nat.reduceDiv, Nat.reduceMod, Nat.reduceLT, Nat.reduceLeDiff, Nat.reduceEqDiff, Nat.reduceBEq, Nat.reduceBNe, Nat.reduceGT, Int.reduceAdd, Int.reduceSub, Int.reduceMul, Int.reduceNeg, Int.reduceLT, Int.reduceLE, Int.reduceEq, Int.reduceNe, Int.reduceBEq, Int.reduceBNe, Int.reduceToNat, Int.reduceGT, Int.reduceGE, ↓reduceIte, decide_true, decide_false, eq_self, Nat.mul_one, Nat.zero_mul, Nat.one_mul, Int.le_refl, Nat.le_refl, Int.cast_ofNat_Int]
      · by_cases hlt : (k : Int) < n
        · obtain ⟨x, hx⟩ : ∃ x, w.S[k]? = some x := ⟨_, List.getElem?_eq_getElem (by omega)⟩
          have hd := ints_at hx
          rw [Nat.mul_one] at hd
          have hb := sb k (by omega)
          rw [tempAt_eq hx] at hb
          have hi : inB x (-1000000000) 1000000000 = true := inB_iff.2 hb
          have hw3 : IntKind.i64.wrap ((k : Int) + 1) = ((k + 1 : Nat) : Int) := by rw [wrap_in (by omega) (by omega)]; omega
          simp (decide := true) (maxSteps := 4000000) only [go_sem, Nat.reduceAdd, Nat.reduceSub, Nat.reduceMul, Nat.reduceDiv, Nat.reduceMod, Nat.reduceLT, Nat.reduceLeDiff, Nat.reduceEqDiff, Nat.reduceBEq, Nat.reduceBNe, Nat.reduceGT, Int.reduceAdd, Int.reduceSub, Int.reduceMul, Int.reduceNeg, Int.reduceLT, Int.reduceLE, Int.reduceEq, Int.reduceNe, Int.reduceBEq, Int.reduceBNe, Int.reduceToNat, Int.reduceGT, Int.reduceGE, ↓reduceIte, decide_true, decide_false, eq_self, Nat.mul_one, Nat.zero_mul, Nat.one_mul, Int.le_refl, Nat.le_refl, Int.cast_ofNat_Int, hlt, hd, hi]
          refine hI2 _ ⟨k + 1, by omega⟩ (by simp only; omega) ?_
          simp (decide := true) (maxSteps := 4000000) only [go_sem, Nat.reduceAdd, Nat.reduceSub, Nat.reduceMul, Nat.reduceDiv, Nat.reduceMod, Nat.reduceLT, Nat.reduceLeDiff, Nat.reduceEqDiff, Nat.reduceBEq, Nat.reduceBNe, Nat.reduceGT, Int.reduceAdd, Int.reduceSub, Int.reduceMul, Int.reduceNeg, Int.reduceLT, Int.reduceLE, Int.reduceEq, Int.reduceNe, Int.reduceBEq, Int.reduceBNe, Int.reduceToNat, Int.reduceGT, Int.reduceGE, ↓reduceIte, decide_true, decide_false, eq_self, Nat.mul_one, Nat.zero_mul, Nat.one_mul, Int.le_refl, Nat.le_refl, Int.cast_ofNat_Int, hw3]
        · simp (decide := true) (maxSteps := 4000000) only [go_sem, Nat.reduceAdd, Nat.reduceSub, Nat.reduceMul, Nat.reduceDiv, Nat.reduceMod, Nat.reduceLT, Nat.reduceLeDiff, Nat.reduceEqDiff, Nat.reduceBEq, Nat.reduceBNe, Nat.reduceGT, Int.reduceAdd, Int.reduceSub, Int.reduceMul, Int.reduceNeg, Int.reduceLT, Int.reduceLE, Int.reduceEq, Int.reduceNe, Int.reduceBEq, Int.reduceBNe, Int.reduceToNat, Int.reduceGT, Int.reduceGE, ↓reduceIte, decide_true, decide_false, eq_self, Nat.mul_one, Nat.zero_mul, Nat.one_mul, Int.le_refl, Nat.le_refl, Int.cast_ofNat_Int, hlt]
          refine hQ2 _ _ ?_
          simp (decide := true) (maxSteps := 4000000) only [go_sem, Nat.reduceAdd, Nat.reduceSub, Nat.reduceMul, Nat.reduceDiv, Nat.reduceMod, Nat.reduceLT, Nat.reduceLeDiff, Nat.reduceEqDiff, Nat.reduceBEq, Nat.reduceBNe, Nat.reduceGT, Int.reduceAdd, Int.reduceSub, Int.reduceMul, Int.reduceNeg, Int.reduceLT, Int.reduceLE, Int.reduceEq, Int.reduceNe, Int.reduceBEq, Int.reduceBNe, Int.reduceToNat, Int.reduceGT, Int.reduceGE, ↓reduceIte, decide_true, decide_false, eq_self, Nat.mul_one, Nat.zero_mul, Nat.one_mul, Int.le_refl, Nat.le_refl, Int.cast_ofNat_Int]
          refine hI1 _ ⟨2, by omega⟩ (by simp only; omega) ?_
          simp (decide := true) (maxSteps := 4000000) only [go_sem, Nat.reduceAdd, Nat.reduceSub, Nat.reduceMul, Nat.reduceDiv, Nat.reduceMod, Nat.reduceLT, Nat.reduceLeDiff, Nat.reduceEqDiff, Nat.reduceBEq, Nat.reduceBNe, Nat.reduceGT, Int.reduceAdd, Int.reduceSub, Int.reduceMul, Int.reduceNeg, Int.reduceLT, Int.reduceLE, Int.reduceEq, Int.reduceNe, Int.reduceBEq, Int.reduceBNe, Int.reduceToNat, Int.reduceGT, Int.reduceGE, ↓reduceIte, decide_true, decide_false, eq_self, Nat.mul_one, Nat.zero_mul, Nat.one_mul, Int.le_refl, Nat.le_refl, Int.cast_ofNat_Int]
    · simp (decide := true) (maxSteps := 4000000) only [go_sem, Nat.reduceAdd, Nat.reduceSub, Nat.reduceMul, Nat.reduceDiv, Nat.reduceMod, Nat.reduceLT, Nat.reduceLeDiff, Nat.reduceEqDiff, Nat.reduceBEq, Nat.reduceBNe, Nat.reduceGT, Int.reduceAdd, Int.reduceSub, Int.reduceMul, Int.reduceNeg, Int.reduceLT, Int.reduceLE, Int.reduceEq, Int.reduceNe, Int.reduceBEq, Int.reduceBNe, Int.reduceToNat, Int.reduceGT, Int.reduceGE, ↓reduceIte, decide_true, decide_false, eq_self, Nat.mul_one, Nat.zero_mul, Nat.one_mul, Int.le_refl, Nat.le_refl, Int.cast_ofNat_Int]
      refine hQ1 _ _ ?_
      simp (decide := true) (maxSteps := 4000000) only [go_sem, Nat.reduceAdd, Nat.reduceSub, Nat.reduceMul, Nat.reduceDiv, Nat.reduceMod, Nat.reduceLT, Nat.reduceLeDiff, Nat.reduceEqDiff, Nat.reduceBEq, Nat.reduceBNe, Nat.reduceGT, Int.reduceAdd, Int.reduceSub, Int.reduceMul, Int.reduceNeg, Int.reduceLT, Int.reduceLE, Int.reduceEq, Int.reduceNe, Int.reduceBEq, Int.reduceBNe, Int.reduceToNat, Int.reduceGT, Int.reduceGE, ↓reduceIte, decide_true, decide_false, eq_self, Nat.mul_one, Nat.zero_mul, Nat.one_mul, Int.le_refl, Nat.le_refl, Int.cast_ofNat_Int]
      refine pwpC_loopU (A := { i : Nat // i ≤ 3 }) [1, 2, 3, 4, 5, 58] (fun i => [(59, .t (.int .i64 i.1))]) (fun _ => []) (fun i => 3 - i.1) ⟨0, by omega⟩ (by decide) (fun _ => by rfl) ?_ fun Q3 hQ3 ⟨i, hi⟩ I3 hI3 => ?_
      · simp (decide := true) (maxSteps := 4000000) only [go_sem, Nat.reduceAdd, Nat.reduceSub, Nat.reduceMul, Nat.reduceDiv, Nat.reduceMod, Nat.reduceLT, Nat.reduceLeDiff, Nat.reduceEqDiff, Nat.reduceBEq, Nat.reduceBNe, Nat.reduceGT, Int.reduceAdd, Int.reduceSub, Int.reduceMul, Int.reduceNeg, Int.reduceLT, Int.reduceLE, Int.reduceEq, Int.reduceNe, Int.reduceBEq, Int.reduceBNe, Int.reduceToNat, Int.reduceGT, Int.reduceGE, ↓reduceIte, decide_true, decide_false, eq_self, Nat.mul_one, Nat.zero_mul, Nat.one_mul, Int.le_refl, Nat.le_refl, Int.cast_ofNat_Int]
      · rcases (by omega : i = 0 ∨ i = 1 ∨ i = 2 ∨ i = 3) with rfl | rfl | rfl | rfl
        · simp (decide := true) (maxSteps := 4000000) only [go_sem, Nat.reduceAdd, Nat.reduceSub, Nat.reduceMul, Nat.reduceDiv, Nat.reduceMod, Nat.reduceLT, Nat.reduceLeDiff, Nat.reduceEqDiff, Nat.reduceBEq, Nat.reduceBNe, Nat.reduceGT, Int.reduceAdd, Int.reduceSub, Int.reduceMul, Int.reduceNeg, Int.reduceLT, Int.reduceLE, Int.reduceEq, Int.reduceNe, Int.reduceBEq, Int.reduceBNe, Int.reduceToNat, Int.reduceGT, Int.reduceGE, ↓reduceIte, decide_true, decide_false, eq_self, Nat.mul_one, Nat.zero_mul, Nat.one_mul, Int.le_refl, Nat.le_refl, Int.cast_ofNat_Int, r0]
          refine hI3 _ ⟨1, by omega⟩ (by simp only; omega) ?_
          simp (decide := true) (maxSteps := 4000000) only [go_sem, Nat.reduceAdd, Nat.reduceSub, Nat.reduceMul, Nat.reduceDiv, Nat.reduceMod, Nat.reduceLT, Nat.reduceLeDiff, Nat.reduceEqDiff, Nat.reduceBEq, Nat.reduceBNe, Nat.reduceGT, Int.reduceAdd, Int.reduceSub, Int.reduceMul, Int.reduceNeg, Int.reduceLT, Int.reduceLE, Int.reduceEq, Int.reduceNe, Int.reduceBEq, Int.reduceBNe, Int.reduceToNat, Int.reduceGT, Int.reduceGE, ↓reduceIte, decide_true, decide_false, eq_self, Nat.mul_one, Nat.zero_mul, Nat.one_mul, Int.le_refl, Nat.le_refl, Int.cast_ofNat_Int]
        · simp (decide := true) (maxSteps := 4000000) only [go_sem, Nat.reduceAdd, Nat.reduceSub, Nat.reduceMul, Nat.reduceDiv, Nat.reduceMod, Nat.reduceLT, Nat.reduceLeDiff, Nat.reduceEqDiff, Nat.reduceBEq, Nat.reduceBNe, Nat.reduceGT, Int.reduceAdd, Int.reduceSub, Int.reduceMul, Int.reduceNeg, Int.reduceLT, Int.reduceLE, Int.reduceEq, Int.reduceNe, Int.reduceBEq, Int.reduceBNe, Int.reduceToNat, Int.reduceGT, Int.reduceGE, ↓reduceIte, decide_true, decide_false, eq_self, Nat.mul_one, Nat.zero_mul, Nat.one_mul, Int.le_refl, Nat.le_refl, Int.cast_ofNat_Int, r1]
          refine hI3 _ ⟨2, by omega⟩ (by simp only; omega) ?_
          simp (decide := true) (maxSteps := 4000000) only [go_sem, Nat.reduceAdd, Nat.reduceSub, Nat.reduceMul, Nat.reduceDiv, Nat.reduceMod, Nat.reduceLT, Nat.reduceLeDiff, Nat.reduceEqDiff, Nat.reduceBEq, Nat.reduceBNe, Nat.reduceGT, Int.reduceAdd, Int.reduceSub, Int.reduceMul, Int.reduceNeg, Int.reduceLT, Int.reduceLE, Int.reduceEq, Int.reduceNe, Int.reduceBEq, Int.reduceBNe, Int.reduceToNat, Int.reduceGT, Int.reduceGE, ↓reduceIte, decide_true, decide_false, eq_self, Nat.mul_one, Nat.zero_mul, Nat.one_mul, Int.le_refl, Nat.le_refl, Int.cast_ofNat_Int]
        · simp (decide := true) (maxSteps := 4000000) only [go_sem, Nat.reduceAdd, Nat.reduceSub, Nat.reduceMul, Nat.reduceDiv, Nat.reduceMod, Nat.reduceLT, Nat.reduceLeDiff, Nat.reduceEqDiff, Nat.reduceBEq, Nat.reduceBNe, Nat.reduceGT, Int.reduceAdd, Int.reduceSub, Int.reduceMul, Int.reduceNeg, Int.reduceLT, Int.reduceLE, Int.reduceEq, Int.reduceNe, Int.reduceBEq, Int.reduceBNe, Int.reduceToNat, Int.reduceGT, Int.reduceGE, ↓reduceIte, decide_true, decide_false, eq_self, Nat.mul_one, Nat.zero_mul, Nat.one_mul, Int.le_refl, Nat.le_refl, Int.cast_ofNat_Int, r2]
          refine hI3 _ ⟨3, by omega⟩ (by simp only; omega) ?_
          simp (decide := true) (maxSteps := 4000000) only [go_sem, Nat.reduceAdd, Nat.reduceSub, Nat.reduceMul, Nat.reduceDiv, Nat.reduceMod, Nat.reduceLT, Nat.reduceLeDiff, Nat.reduceEqDiff, Nat.reduceBEq, Nat.reduceBNe, Nat.reduceGT, Int.reduceAdd, Int.reduceSub, Int.reduceMul, Int.reduceNeg, Int.reduceLT, Int.reduceLE, Int.reduceEq, Int.reduceNe, Int.reduceBEq, Int.reduceBNe, Int.reduceToNat, Int.reduceGT, Int.reduceGE, ↓reduceIte, decide_true, decide_false, eq_self, Nat.mul_one, Nat.zero_mul, Nat.one_mul, Int.le_refl, Nat.le_refl, Int.cast_ofNat_Int]
        · simp (decide := true) (maxSteps := 4000000) only [go_sem, Nat.reduceAdd, Nat.reduceSub, Nat.reduceMul, Nat.reduceDiv, Nat.reduceMod, Nat.reduceLT, Nat.reduceLeDiff, Nat.reduceEqDiff, Nat.reduceBEq, Nat.reduceBNe, Nat.reduceGT, Int.reduceAdd, Int.reduceSub, Int.reduceMul, Int.reduceNeg, Int.reduceLT, Int.reduceLE, Int.reduceEq, Int.reduceNe, Int.reduceBEq, Int.reduceBNe, Int.reduceToNat, Int.reduceGT, Int.reduceGE, ↓reduceIte, decide_true, decide_false, eq_self, Nat.mul_one, Nat.zero_mul, Nat.one_mul, Int.le_refl, Nat.le_refl, Int.cast_ofNat_Int]
          refine hQ3 _ _ ?_
          simp (decide := true) (maxSteps := 4000000) only [go_sem, Nat.reduceAdd, Nat.reduceSub, Nat.reduceMul, Nat.reduceDiv, Nat.reduceMod, Nat.reduceLT, Nat.reduceLeDiff, Nat.reduceEqDiff, Nat.reduceBEq, Nat.reduceBNe, Nat.reduceGT, Int.reduceAdd, Int.reduceSub, Int.reduceMul, Int.reduceNeg, Int.reduceLT, Int.reduceLE, Int.reduceEq, Int.reduceNe, Int.reduceBEq, Int.reduceBNe, Int.reduceToNat, Int.reduceGT, Int.reduceGE, ↓reduceIte, decide_true, decide_false, eq_self, Nat.mul_one, Nat.zero_mul, Nat.one_mul, Int.le_refl, Nat.le_refl, Int.cast_ofNat_Int]
          refine pwpC_loopU (A := { c : Nat // c ≤ 3 }) [1, 2, 3, 4] (fun c => [(71, .t (.int .i64 c.1))]) (fun c => [(2, .mp 159 (plO n c.1))]) (fun c => 3 - c.1) ⟨0, by omega⟩ (by decide) (fun _ => by rfl) ?_ fun Q4 hQ4 ⟨c, hc⟩ I4 hI4 => ?_
          · simp (decide := true) (maxSteps := 4000000) only [go_sem, Nat.reduceAdd, Nat.reduceSub, Nat.reduceMul, Nat.reduceDiv, Nat.reduceMod, Nat.reduceLT, Nat.reduceLeDiff, Nat.reduceEqDiff, Nat.reduceBEq, Nat.reduceBNe, Nat.reduceGT, Int.reduceAdd, Int.reduceSub, Int.reduceMul, Int.reduceNeg, Int.reduceLT, Int.reduceLE, Int.reduceEq, Int.reduceNe, Int.reduceBEq, Int.reduceBNe, Int.reduceToNat, Int.reduceGT, Int.reduceGE, ↓reduceIte, decide_true, decide_false, eq_self, Nat.mul_one, Nat.zero_mul, Nat.one_mul, Int.le_refl, Nat.le_refl, Int.cast_ofNat_Int, show plO n 0 = fun _ => none from rfl]
            first | done | trace_state
          · by_cases hc3 : (c : Int) < 3
            · simp (decide := true) (maxSteps := 4000000) only [go_sem, Nat.reduceAdd, Nat.reduceSub, Nat.reduceMul, Nat.reduceDiv, Nat.reduceMod, Nat.reduceLT, Nat.reduceLeDiff, Nat.reduceEqDiff, Nat.reduceBEq, Nat.reduceBNe, Nat.reduceGT, Int.reduceAdd, Int.reduceSub, Int.reduceMul, Int.reduceNeg, Int.reduceLT, Int.reduceLE, Int.reduceEq, Int.reduceNe, Int.reduceBEq, Int.reduceBNe, Int.reduceToNat, Int.reduceGT, Int.reduceGE, ↓reduceIte, decide_true, decide_false, eq_self, Nat.mul_one, Nat.zero_mul, Nat.one_mul, Int.le_refl, Nat.le_refl, Int.cast_ofNat_Int, hc3]
              refine pwpC_loopU (A := { d : Nat // d ≤ n }) [1, 2, 3, 4, 12, 71, 75] (fun d => [(76, .t (.int .i64 d.1))]) (fun d => [(2, .mp 159 (plI (plO n c) c d.1))]) (fun d => n - d.1) ⟨0, by omega⟩ (by decide) (fun _ => by rfl) ?_ fun Q5 hQ5 ⟨d, hd⟩ I5 hI5 => ?_
              · simp (decide := true) (maxSteps := 4000000) only [go_sem, Nat.reduceAdd, Nat.reduceSub, Nat.reduceMul, Nat.reduceDiv, Nat.reduceMod, Nat.reduceLT, Nat.reduceLeDiff, Nat.reduceEqDiff, Nat.reduceBEq, Nat.reduceBNe, Nat.reduceGT, Int.reduceAdd, Int.reduceSub, Int.reduceMul, Int.reduceNeg, Int.reduceLT, Int.reduceLE, Int.reduceEq, Int.reduceNe, Int.reduceBEq, Int.reduceBNe, Int.reduceToNat, Int.reduceGT, Int.reduceGE, ↓reduceIte, decide_true, decide_false, eq_self, Nat.mul_one, Nat.zero_mul, Nat.one_mul, Int.le_refl, Nat.le_refl, Int.cast_ofNat_Int, show plI (plO n c) c 0 = plO n c from rfl]
                first | done | trace_state
              · by_cases hd3 : (d : Int) < n
                · have w1 : IntKind.i64.wrap ((c : Int) * 20) = (c : Int) * 20 := wrap_in (by omega) (by omega)
                  have w2 : IntKind.i64.wrap ((c : Int) * 20 + d) = (c : Int) * 20 + d := wrap_in (by omega) (by omega)
                  have w3 : IntKind.i64.wrap ((d : Int) + 1) = ((d + 1 : Nat) : Int) := by rw [wrap_in (by omega) (by omega)]; omega
                  simp (decide := true) (maxSteps := 4000000) only [go_sem, Nat.reduceAdd, Nat.reduceSub, Nat.reduceMul, Nat.reduceDiv, Nat.reduceMod, Nat.reduceLT, Nat.reduceLeDiff, Nat.reduceEqDiff, Nat.reduceBEq, Nat.reduceBNe, Nat.reduceGT, Int.reduceAdd, Int.reduceSub, Int.reduceMul, Int.reduceNeg, Int.reduceLT, Int.reduceLE, Int.reduceEq, Int.reduceNe, Int.reduceBEq, Int.reduceBNe, Int.reduceToNat, Int.reduceGT, Int.reduceGE, ↓reduceIte, decide_true, decide_false, eq_self, Nat.mul_one, Nat.zero_mul, Nat.one_mul, Int.le_refl, Nat.le_refl, Int.cast_ofNat_Int, hd3, w1, w2, key_when]
                  refine hI5 _ ⟨d + 1, by omega⟩ (by simp only; omega) ?_
                  simp (decide := true) (maxSteps := 4000000) only [go_sem, Nat.reduceAdd, Nat.reduceSub, Nat.reduceMul, Nat.reduceDiv, Nat.reduceMod, Nat.reduceLT, Nat.reduceLeDiff, Nat.reduceEqDiff, Nat.reduceBEq, Nat.reduceBNe, Nat.reduceGT, Int.reduceAdd, Int.reduceSub, Int.reduceMul, Int.reduceNeg, Int.reduceLT, Int.reduceLE, Int.reduceEq, Int.reduceNe, Int.reduceBEq, Int.reduceBNe, Int.reduceToNat, Int.reduceGT, Int.reduceGE, ↓reduceIte, decide_true, decide_false, eq_self, Nat.mul_one, Nat.zero_mul, Nat.one_mul, Int.le_refl, Nat.le_refl, Int.cast_ofNat_Int, w3, show plI (plO n c) c (d + 1) = updT (plI (plO n c) c d) (.agg [.int .i64 c, .int .i64 d]) (.int .i64 ((c : Int) * 20 + d)) from rfl]
                  first | done | trace_state
                · have hdn : d = n := by omega
                  subst hdn
                  simp (decide := true) (maxSteps := 4000000) only [go_sem, Nat.reduceAdd, Nat.reduceSub, Nat.reduceMul, Nat.reduceDiv, Nat.reduceMod, Nat.reduceLT, Nat.reduceLeDiff, Nat.reduceEqDiff, Nat.reduceBEq, Nat.reduceBNe, Nat.reduceGT, Int.reduceAdd, Int.reduceSub, Int.reduceMul, Int.reduceNeg, Int.reduceLT, Int.reduceLE, Int.reduceEq, Int.reduceNe, Int.reduceBEq, Int.reduceBNe, Int.reduceToNat, Int.reduceGT, Int.reduceGE, ↓reduceIte, decide_true, decide_false, eq_self, Nat.mul_one, Nat.zero_mul, Nat.one_mul, Int.le_refl, Nat.le_refl, Int.cast_ofNat_Int, hd3]
                  refine hQ5 _ _ ?_
                  have w3 : IntKind.i64.wrap ((c : Int) + 1) = ((c + 1 : Nat) : Int) := by rw [wrap_in (by omega) (by omega)]; omega
                  simp (decide := true) (maxSteps := 4000000) only [go_sem, Nat.reduceAdd, Nat.reduceSub, Nat.reduceMul, Nat.reduceDiv, Nat.reduceMod, Nat.reduceLT, Nat.reduceLeDiff, Nat.reduceEqDiff, Nat.reduceBEq, Nat.reduceBNe, Nat.reduceGT, Int.reduceAdd, Int.reduceSub, Int.reduceMul, Int.reduceNeg, Int.reduceLT, Int.reduceLE, Int.reduceEq, Int.reduceNe, Int.reduceBEq, Int.reduceBNe, Int.reduceToNat, Int.reduceGT, Int.reduceGE, ↓reduceIte, decide_true, decide_false, eq_self, Nat.mul_one, Nat.zero_mul, Nat.one_mul, Int.le_refl, Nat.le_refl, Int.cast_ofNat_Int]
                  refine hI4 _ ⟨c + 1, by omega⟩ (by simp only; omega) ?_
                  simp (decide := true) (maxSteps := 4000000) only [go_sem, Nat.reduceAdd, Nat.reduceSub, Nat.reduceMul, Nat.reduceDiv, Nat.reduceMod, Nat.reduceLT, Nat.reduceLeDiff, Nat.reduceEqDiff, Nat.reduceBEq, Nat.reduceBNe, Nat.reduceGT, Int.reduceAdd, Int.reduceSub, Int.reduceMul, Int.reduceNeg, Int.reduceLT, Int.reduceLE, Int.reduceEq, Int.reduceNe, Int.reduceBEq, Int.reduceBNe, Int.reduceToNat, Int.reduceGT, Int.reduceGE, ↓reduceIte, decide_true, decide_false, eq_self, Nat.mul_one, Nat.zero_mul, Nat.one_mul, Int.le_refl, Nat.le_refl, Int.cast_ofNat_Int, w3, show plO d (c + 1) = plI (plO d c) c d from rfl]
                  first | done | trace_state
            · have h3 : c = 3 := by omega
              subst h3
              simp (decide := true) (maxSteps := 4000000) only [go_sem, Nat.reduceAdd, Nat.reduceSub, Nat.reduceMul, Nat.reduceDiv, Nat.reduceMod, Nat.reduceLT, Nat.reduceLeDiff, Nat.reduceEqDiff, Nat.reduceBEq, Nat.reduceBNe, Nat.reduceGT, Int.reduceAdd, Int.reduceSub, Int.reduceMul, Int.reduceNeg, Int.reduceLT, Int.reduceLE, Int.reduceEq, Int.reduceNe, Int.reduceBEq, Int.reduceBNe, Int.reduceToNat, Int.reduceGT, Int.reduceGE, ↓reduceIte, decide_true, decide_false, eq_self, Nat.mul_one, Nat.zero_mul, Nat.one_mul, Int.le_refl, Nat.le_refl, Int.cast_ofNat_Int]
              refine hQ4 _ _ ?_
              simp (decide := true) (maxSteps := 4000000) only [go_sem, Nat.reduceAdd, Nat.reduceSub, Nat.reduceMul, Nat.reduceDiv, Nat.reduceMod, Nat.reduceLT, Nat.reduceLeDiff, Nat.reduceEqDiff, Nat.reduceBEq, Nat.reduceBNe, Nat.reduceGT, Int.reduceAdd, Int.reduceSub, Int.reduceMul, Int.reduceNeg, Int.reduceLT, Int.reduceLE, Int.reduceEq, Int.reduceNe, Int.reduceBEq, Int.reduceBNe, Int.reduceToNat, Int.reduceGT, Int.reduceGE, ↓reduceIte, decide_true, decide_false, eq_self, Nat.mul_one, Nat.zero_mul, Nat.one_mul, Int.le_refl, Nat.le_refl, Int.cast_ofNat_Int, wCells, consP]
              refine ⟨_, rfl, ?_⟩
              simp (decide := true) (maxSteps := 4000000) only [go_sem, Nat.reduceAdd, Nat.reduceSub, Nat.reduceMul, Nat.reduceDiv, Nat.reduceMod, Nat.reduceLT, Nat.reduceLeDiff, Nat.reduceEqDiff, Nat.reduceBEq, Nat.reduceBNe, Nat.reduceGT, Int.reduceAdd, Int.reduceSub, Int.reduceMul, Int.reduceNeg, Int.reduceLT, Int.reduceLE, Int.reduceEq, Int.reduceNe, Int.reduceBEq, Int.reduceBNe, Int.reduceToNat, Int.reduceGT, Int.reduceGE, ↓reduceIte, decide_true, decide_false, eq_self, Nat.mul_one, Nat.zero_mul, Nat.one_mul, Int.le_refl, Nat.le_refl, Int.cast_ofNat_Int, wCells, consP, thawP, thawA, thawC, aggP, allO, PV.under]
              first | done | trace_state
end Go.Proofs.Ytadkjjnnnkfalaa

/- Part Km. -/
namespace Go.Pm
open Go Go.RowKit
open Classical in
noncomputable def twoH (ps0 : List PV) (hl0 : List PO) (r : PV × List PO) (ps1 : List PV) (hl1 : List PO) (r' : PV × List PO) : List PV → List PO → Option (PV × List PO) := fun ps hl => if ps = ps0 ∧ hl = hl0 then some r else if ps = ps1 ∧ hl = hl1 then some r' else none
theorem two_ok {P : Program} {f : FuncId} {ps0 ps1 : List PV} {hl0 hl1 : List PO} {r r' : PV × List PO} (h : HCalls P f ps0 (getL hl0) r.1 (getL r.2)) (h' : HCalls P f ps1 (getL hl1) r'.1 (getL r'.2)) : ∀ ps hl v hl', twoH ps0 hl0 r ps1 hl1 r' ps hl = some (v, hl') → HCalls P f ps (getL hl) v (getL hl') := by
  intro ps hl v hl' e
  unfold twoH at e
  split at e
  · rename_i hc; obtain ⟨rfl, rfl⟩ := hc; cases e; exact h
  · split at e
    · rename_i hc; obtain ⟨rfl, rfl⟩ := hc; cases e; exact h'
    · cases e
open Classical in
@[go_sem] theorem twoH_eq (ps0 : List PV) (hl0 : List PO) (r : PV × List PO) (ps1 : List PV) (hl1 : List PO) (r' : PV × List PO) (ps : List PV) (hl : List PO) : twoH ps0 hl0 r ps1 hl1 r' ps hl = if ps = ps0 ∧ hl = hl0 then some r else if ps = ps1 ∧ hl = hl1 then some r' else none := rfl
end Go.Pm
namespace Go.Ok
open Go Go.RowKit Go.Pm Go.Oc Go.Oh Go.Os
def andE (a b : Int) : Int := IntKind.i64.wrap ((@BitVec.toNat 64 (@HAnd.hAnd (BitVec 64) (BitVec 64) (BitVec 64) (@instHAndOfAndOp (BitVec IntKind.i64.bits) (@BitVec.instAndOp IntKind.i64.bits)) (BitVec.ofInt 64 a) (BitVec.ofInt 64 b)) : Nat) : Int)
theorem and_fold (a b : Int) : IntKind.i64.wrap ((@BitVec.toNat 64 (@HAnd.hAnd (BitVec 64) (BitVec 64) (BitVec 64) (@instHAndOfAndOp (BitVec IntKind.i64.bits) (@BitVec.instAndOp IntKind.i64.bits)) (BitVec.ofInt 64 a) (BitVec.ofInt 64 b)) : Nat) : Int) = andE a b := rfl
/-- How many clocks are in a set. -/
def popc (s : Nat) : Nat := s % 2 + s / 2 % 2 + s / 4
noncomputable def tryP (w : Wa) (n many : Nat) (s : Nat) : Bool := decide (popc s = many) && canB w s n
noncomputable def tryN (w : Wa) (n many i : Nat) : List Nat := (List.range i).filter (tryP w n many)
noncomputable def tryI (w : Wa) (n many i : Nat) : List Int := (tryN w n many i).map fun (s : Nat) => (s : Int)
theorem tryI_succ (w : Wa) (n many i : Nat) : tryI w n many (i + 1) = if tryP w n many i = true then tryI w n many i ++ [(i : Int)] else tryI w n many i := by
  unfold tryI tryN
  rw [List.range_succ, List.filter_append]
  cases h : tryP w n many i <;> simp [h]
theorem popc_E : ∀ s : Nat, s < 8 → IntKind.i64.wrap (IntKind.i64.wrap (andE s 1 + andE (Int.fdiv s (2 ^ min 1 64)) 1) + Int.fdiv s (2 ^ min 2 64)) = popc s := by decide
theorem popc_j : ∀ s : Nat, s < 8 → popc s ≤ 1 → ((s : Int) = 0 ∨ (s : Int) = 1 ∨ (s : Int) = 2 ∨ (s : Int) = 4) := by decide
theorem tryI_len (w : Wa) (n many i : Nat) : (tryI w n many i).length ≤ i := by
  unfold tryI tryN
  rw [List.length_map]
  have := List.length_filter_le (tryP w n many) (List.range i)
  rwa [List.length_range] at this
end Go.Ok
namespace Go.Proofs.Ytadkjjnnnkfalaa
open Go.RowKit Go.Pm Go.Oc Go.Oh Go.Os Go.Ok
set_option maxRecDepth 100000
set_option linter.unusedVariables false
set_option maxHeartbeats 8000000

noncomputable def wV (w : Wa) (fF fS : Bool) (n id : Nat) : PV := consP false (wCells (.sl (ints w.F) n fF) (.sl (ints w.S) n fS) w.wr w.r0 w.r1 w.r2 n id)
open Classical in
noncomputable def gCan (A : Int → Prop) (w : Wa) (fF fS : Bool) (n : Nat) : List PV → List PO → Option (PV × List PO) := fun ps hl => match ps with
  | [wv, .t (.int .i64 m), .t (.int .i64 j)] => if wv = wV w fF fS n 0 ∧ hl = [.mp 159 (plO n 3)] ∧ (1 ≤ m ∧ m ≤ n) ∧ A j then some (.t (.bool (canB w j m.toNat)), [.mp 159 (plO n 3)]) else none
  | _ => none
theorem gCan_ok (A : Int → Prop) (hA : ∀ j, A j → j = 0 ∨ j = 1 ∨ j = 2 ∨ j = 4) (w : Wa) (fF fS : Bool) (n : Nat) (hg : GoodW w n) : ∀ xs hl r hl', gCan A w fF fS n xs hl = some (r, hl') → HCalls Try.prog 69 xs (getL hl) r (getL hl') := by
  intro xs hl r hl' h
  unfold gCan at h
  split at h
  · split at h
    · rename_i m j hc
      obtain ⟨rfl, rfl, hm, hj⟩ := hc
      simp only [Option.some.injEq, Prod.mk.injEq] at h
      obtain ⟨rfl, rfl⟩ := h
      obtain ⟨k, rfl⟩ : ∃ k : Nat, m = k := ⟨m.toNat, (Int.toNat_of_nonneg (by omega)).symm⟩
      have := kCan_c w fF fS (plO n 3) j (hA j hj) n k (hg.good k (by omega)) (by have := hg.n20; omega) (by omega) (fun c d h1 h2 h3 h4 => plO_at n c d h1 h3 (by omega) 3 h2)
      rw [hg.fl, hg.sl] at this
      exact this
    · cases h
  · cases h
open Classical in
@[go_sem] theorem gCan_eq (A : Int → Prop) (w : Wa) (fF fS : Bool) (n : Nat) (wv : PV) (m j : Int) (hl : List PO) : gCan A w fF fS n [wv, .t (.int .i64 m), .t (.int .i64 j)] hl = if wv = wV w fF fS n 0 ∧ hl = [.mp 159 (plO n 3)] ∧ (1 ≤ m ∧ m ≤ n) ∧ A j then some (.t (.bool (canB w j m.toNat)), [.mp 159 (plO n 3)]) else none := rfl
noncomputable def spKm (A : Int → Prop) (w : Wa) (fF fS : Bool) (n : Nat) : Pm.Spec := noSpec.oneH 69 (gCan A w fF fS n)
theorem spKm_ok (A : Int → Prop) (hA : ∀ j, A j → j = 0 ∨ j = 1 ∨ j = 2 ∨ j = 4) (w : Wa) (fF fS : Bool) (n : Nat) (hg : GoodW w n) : SpecOk Try.prog (spKm A w fF fS n) := Spec.oneH_ok (gCan_ok A hA w fF fS n hg) noSpec_ok
@[go_sem] theorem spKm_p (A : Int → Prop) (w : Wa) (fF fS : Bool) (n : Nat) (f : FuncId) (xs : List TV) : (spKm A w fF fS n).p f xs = none := rfl
@[go_sem] theorem spKm_h (A : Int → Prop) (w : Wa) (fF fS : Bool) (n : Nat) (f : FuncId) (ps : List PV) (hl : List PO) : (spKm A w fF fS n).h f ps hl = if f = 69 then gCan A w fF fS n ps hl else none := rfl
@[go_sem] theorem spKm_y (A : Int → Prop) (w : Wa) (fF fS : Bool) (n : Nat) (Y : Pm.YS) (f : FuncId) (ps : List PV) (hl : List PO) : (spKm A w fF fS n).y Y f ps hl = none := rfl
@[go_sem] theorem spKm_fz (A : Int → Prop) (w : Wa) (fF fS : Bool) (n : Nat) (f : FuncId) : (spKm A w fF fS n).fz f = false := rfl
@[go_sem] theorem spKm_fr (A : Int → Prop) (w : Wa) (fF fS : Bool) (n : Nat) (f : FuncId) : (spKm A w fF fS n).fr f = false := rfl
@[go_sem] theorem spKm_yf (A : Int → Prop) (w : Wa) (fF fS : Bool) (n : Nat) (f : FuncId) : (spKm A w fF fS n).yf f = false := rfl
@[go_sem] theorem spKm_mu (A : Int → Prop) (w : Wa) (fF fS : Bool) (n : Nat) (t : TypeId) : (spKm A w fF fS n).mu t = false := rfl
@[go_sem] theorem spKm_nf (A : Int → Prop) (w : Wa) (fF fS : Bool) (n : Nat) (t : TypeId) : (spKm A w fF fS n).nf t = false := rfl

theorem kTry_c (w : Wa) (fF fS : Bool) (n many : Nat) (hg : GoodW w n) (hm : many ≤ 1) :
    HCalls Try.prog 68 [.t (.int .i64 many), .ptr 0 0, .ptr 1 0] (getL [.box (wCells (.sl (ints w.F) n fF) (.sl (ints w.S) n fS) w.wr w.r0 w.r1 w.r2 n 2), .box [.own [] 0 3], .mp 159 (plO n 3), .tok 0 3]) (.t (.tup []))
      (getL [.box (wCells (.sl (ints w.F) n fF) (.sl (ints w.S) n fS) w.wr w.r0 w.r1 w.r2 n 2), .box [.own (ints (tryI w n many 8)) (tryI w n many 8).length 3], .mp 159 (plO n 3), .tok (tryI w n many 8).length 3]) := by
  have h2 := hg.n2
  refine hcalls_by Try.mixes (spKm_ok (fun j => popc j.toNat = many ∧ (j = 0 ∨ j = 1 ∨ j = 2 ∨ j = 4)) (fun j h => h.2) w fF fS n hg) (fn := Try.f68) Try.func68 rfl (by kernel_rfl) (by show 3 ≤ _; decide) ?_
  simp (decide := true) (maxSteps := 4000000) only [go_sem, Nat.reduceAdd, Nat.reduceSub, Nat.reduceMul, Nat.reduceDiv, Nat.reduceMod, Nat.reduceLT, Nat.reduceLeDiff, Nat.reduceEqDiff, Nat.reduceBEq, Nat.reduceBNe, Nat.reduceGT, Int.reduceAdd, Int.reduceSub, Int.reduceMul, Int.reduceNeg, Int.reduceLT, Int.reduceLE, Int.reduceEq, Int.reduceNe, Int.reduceBEq, Int.reduceBNe, Int.reduceToNat, Int.reduceGT, Int.reduceGE, ↓reduceIte, decide_true, decide_false, eq_self, Nat.mul_one, Nat.zero_mul, Nat.one_mul, Int.le_refl, Nat.le_refl, Int.cast_ofNat_Int, Try.f68, wCells]
  refine pwpC_loopU (A := { i : Nat // i ≤ 8 }) [0, 1, 2] (fun i => [(5, .t (.int .i64 i.1))]) (fun i => [(1, .box [.own (ints (tryI w n many i.1)) (tryI w n many i.1).length 3]), (3, .tok (tryI w n many i.1).length 3)]) (fun i => 8 - i.1) ⟨0, by omega⟩ (by decide) (fun _ => by rfl) ?_ fun Q1 hQ1 ⟨i, hi⟩ I1 hI1 => ?_
  · simp (decide := true) (maxSteps := 4000000) only [go_sem, Nat.reduceAdd, Nat.reduceSub, Nat.reduceMul, Nat.reduceDiv, Nat.reduceMod, Nat.reduceLT, Nat.reduceLeDiff, Nat.reduceEqDiff, Nat.reduceBEq, Nat.reduceBNe, Nat.reduceGT, Int.reduceAdd, Int.reduceSub, Int.reduceMul, Int.reduceNeg, Int.reduceLT, Int.reduceLE, Int.reduceEq, Int.reduceNe, Int.reduceBEq, Int.reduceBNe, Int.reduceToNat, Int.reduceGT, Int.reduceGE, ↓reduceIte, decide_true, decide_false, eq_self, Nat.mul_one, Nat.zero_mul, Nat.one_mul, Int.le_refl, Nat.le_refl, Int.cast_ofNat_Int, show tryI w n many 0 = [] from rfl, show ints [] = [] from rfl]
    first | done | trace_state
  · by_cases hlt : (i : Int) < 8
    · have hw1 : IntKind.i64.wrap ((i : Int) + 1) = ((i + 1 : Nat) : Int) := by rw [wrap_in (by omega) (by omega)]; omega
      have hp := popc_E i (by omega)
      have hs := tryI_succ w n many i
      have hln := tryI_len w n many i
      by_cases hpm : popc i = many
      · have hj := popc_j i (by omega) (by omega)
        have hpb : (((popc i : Nat) : Int) == (many : Int)) = true := by simp [hpm]
        have hnn : (1 : Int) ≤ n := by omega
        have ht : tryP w n many i = canB w i n := by simp [tryP, hpm]
        rw [ht] at hs
        simp (decide := true) (maxSteps := 4000000) only [go_sem, Nat.reduceAdd, Nat.reduceSub, Nat.reduceMul, Nat.reduceDiv, Nat.reduceMod, Nat.reduceLT, Nat.reduceLeDiff, Nat.reduceEqDiff, Nat.reduceBEq, Nat.reduceBNe, Nat.reduceGT, Int.reduceAdd, Int.reduceSub, Int.reduceMul, Int.reduceNeg, Int.reduceLT, Int.reduceLE, Int.reduceEq, Int.reduceNe, Int.reduceBEq, Int.reduceBNe, Int.reduceToNat, Int.reduceGT, Int.reduceGE, ↓reduceIte, decide_true, decide_false, eq_self, Nat.mul_one, Nat.zero_mul, Nat.one_mul, Int.le_refl, Nat.le_refl, Int.cast_ofNat_Int, hlt, and_fold, hp, hpb, wV, wCells, consP, hj, hnn, aggP, allO, hpm, List.map_cons, List.map_nil]
        refine condC_splitB (fun hc => ?_) (fun hc => ?_)
        · rw [hc, if_pos rfl] at hs
          have hln8 : ((tryI w n many i).length + 1) * 8 ≤ 140737488355328 := by omega
          have hs2 : (tryI w n many (i + 1)).length = (tryI w n many i).length + 1 := by rw [hs, List.length_append]; rfl
          have hs3 : ints (tryI w n many (i + 1)) = ints (tryI w n many i) ++ [.int .i64 i] := by rw [hs, ints_snoc]
          simp (decide := true) (maxSteps := 4000000) only [go_sem, Nat.reduceAdd, Nat.reduceSub, Nat.reduceMul, Nat.reduceDiv, Nat.reduceMod, Nat.reduceLT, Nat.reduceLeDiff, Nat.reduceEqDiff, Nat.reduceBEq, Nat.reduceBNe, Nat.reduceGT, Int.reduceAdd, Int.reduceSub, Int.reduceMul, Int.reduceNeg, Int.reduceLT, Int.reduceLE, Int.reduceEq, Int.reduceNe, Int.reduceBEq, Int.reduceBNe, Int.reduceToNat, Int.reduceGT, Int.reduceGE, ↓reduceIte, decide_true, decide_false, eq_self, Nat.mul_one, Nat.zero_mul, Nat.one_mul, Int.le_refl, Nat.le_refl, Int.cast_ofNat_Int, ints_len, hln8]
          refine hI1 _ ⟨i + 1, by omega⟩ (by simp only; omega) ?_
          simp (decide := true) (maxSteps := 4000000) only [go_sem, Nat.reduceAdd, Nat.reduceSub, Nat.reduceMul, Nat.reduceDiv, Nat.reduceMod, Nat.reduceLT, Nat.reduceLeDiff, Nat.reduceEqDiff, Nat.reduceBEq, Nat.reduceBNe, Nat.reduceGT, Int.reduceAdd, Int.reduceSub, Int.reduceMul, Int.reduceNeg, Int.reduceLT, Int.reduceLE, Int.reduceEq, Int.reduceNe, Int.reduceBEq, Int.reduceBNe, Int.reduceToNat, Int.reduceGT, Int.reduceGE, ↓reduceIte, decide_true, decide_false, eq_self, Nat.mul_one, Nat.zero_mul, Nat.one_mul, Int.le_refl, Nat.le_refl, Int.cast_ofNat_Int, hw1, hs2, hs3]
        · rw [hc] at hs
          simp (decide := true) (maxSteps := 4000000) only [go_sem, Nat.reduceAdd, Nat.reduceSub, Nat.reduceMul, Nat.reduceDiv, Nat.reduceMod, Nat.reduceLT, Nat.reduceLeDiff, Nat.reduceEqDiff, Nat.reduceBEq, Nat.reduceBNe, Nat.reduceGT, Int.reduceAdd, Int.reduceSub, Int.reduceMul, Int.reduceNeg, Int.reduceLT, Int.reduceLE, Int.reduceEq, Int.reduceNe, Int.reduceBEq, Int.reduceBNe, Int.reduceToNat, Int.reduceGT, Int.reduceGE, ↓reduceIte, decide_true, decide_false, eq_self, Nat.mul_one, Nat.zero_mul, Nat.one_mul, Int.le_refl, Nat.le_refl, Int.cast_ofNat_Int]
          refine hI1 _ ⟨i + 1, by omega⟩ (by simp only; omega) ?_
          simp (decide := true) (maxSteps := 4000000) only [go_sem, Nat.reduceAdd, Nat.reduceSub, Nat.reduceMul, Nat.reduceDiv, Nat.reduceMod, Nat.reduceLT, Nat.reduceLeDiff, Nat.reduceEqDiff, Nat.reduceBEq, Nat.reduceBNe, Nat.reduceGT, Int.reduceAdd, Int.reduceSub, Int.reduceMul, Int.reduceNeg, Int.reduceLT, Int.reduceLE, Int.reduceEq, Int.reduceNe, Int.reduceBEq, Int.reduceBNe, Int.reduceToNat, Int.reduceGT, Int.reduceGE, ↓reduceIte, decide_true, decide_false, eq_self, Nat.mul_one, Nat.zero_mul, Nat.one_mul, Int.le_refl, Nat.le_refl, Int.cast_ofNat_Int, hw1, hs]
          first | done | trace_state
      · have hpb : (((popc i : Nat) : Int) == (many : Int)) = false := by simp; omega
        have ht : tryP w n many i = false := by simp [tryP, hpm]
        rw [ht] at hs
        simp (decide := true) (maxSteps := 4000000) only [go_sem, Nat.reduceAdd, Nat.reduceSub, Nat.reduceMul, Nat.reduceDiv, Nat.reduceMod, Nat.reduceLT, Nat.reduceLeDiff, Nat.reduceEqDiff, Nat.reduceBEq, Nat.reduceBNe, Nat.reduceGT, Int.reduceAdd, Int.reduceSub, Int.reduceMul, Int.reduceNeg, Int.reduceLT, Int.reduceLE, Int.reduceEq, Int.reduceNe, Int.reduceBEq, Int.reduceBNe, Int.reduceToNat, Int.reduceGT, Int.reduceGE, ↓reduceIte, decide_true, decide_false, eq_self, Nat.mul_one, Nat.zero_mul, Nat.one_mul, Int.le_refl, Nat.le_refl, Int.cast_ofNat_Int, hlt, and_fold, hp, hpb, hpm]
        refine hI1 _ ⟨i + 1, by omega⟩ (by simp only; omega) ?_
        simp (decide := true) (maxSteps := 4000000) only [go_sem, Nat.reduceAdd, Nat.reduceSub, Nat.reduceMul, Nat.reduceDiv, Nat.reduceMod, Nat.reduceLT, Nat.reduceLeDiff, Nat.reduceEqDiff, Nat.reduceBEq, Nat.reduceBNe, Nat.reduceGT, Int.reduceAdd, Int.reduceSub, Int.reduceMul, Int.reduceNeg, Int.reduceLT, Int.reduceLE, Int.reduceEq, Int.reduceNe, Int.reduceBEq, Int.reduceBNe, Int.reduceToNat, Int.reduceGT, Int.reduceGE, ↓reduceIte, decide_true, decide_false, eq_self, Nat.mul_one, Nat.zero_mul, Nat.one_mul, Int.le_refl, Nat.le_refl, Int.cast_ofNat_Int, hw1, hs]
        first | done | trace_state
    · have h8 : i = 8 := by omega
      subst h8
      simp (decide := true) (maxSteps := 4000000) only [go_sem, Nat.reduceAdd, Nat.reduceSub, Nat.reduceMul, Nat.reduceDiv, Nat.reduceMod, Nat.reduceLT, Nat.reduceLeDiff, Nat.reduceEqDiff, Nat.reduceBEq, Nat.reduceBNe, Nat.reduceGT, Int.reduceAdd, Int.reduceSub, Int.reduceMul, Int.reduceNeg, Int.reduceLT, Int.reduceLE, Int.reduceEq, Int.reduceNe, Int.reduceBEq, Int.reduceBNe, Int.reduceToNat, Int.reduceGT, Int.reduceGE, ↓reduceIte, decide_true, decide_false, eq_self, Nat.mul_one, Nat.zero_mul, Nat.one_mul, Int.le_refl, Nat.le_refl, Int.cast_ofNat_Int, hlt]
      refine hQ1 _ _ ?_
      simp (decide := true) (maxSteps := 4000000) only [go_sem, Nat.reduceAdd, Nat.reduceSub, Nat.reduceMul, Nat.reduceDiv, Nat.reduceMod, Nat.reduceLT, Nat.reduceLeDiff, Nat.reduceEqDiff, Nat.reduceBEq, Nat.reduceBNe, Nat.reduceGT, Int.reduceAdd, Int.reduceSub, Int.reduceMul, Int.reduceNeg, Int.reduceLT, Int.reduceLE, Int.reduceEq, Int.reduceNe, Int.reduceBEq, Int.reduceBNe, Int.reduceToNat, Int.reduceGT, Int.reduceGE, ↓reduceIte, decide_true, decide_false, eq_self, Nat.mul_one, Nat.zero_mul, Nat.one_mul, Int.le_refl, Nat.le_refl, Int.cast_ofNat_Int, wCells]
      exact ⟨_, rfl, rfl⟩
def outL (L0 L1 : List Int) : Nat → List Int
  | 0 => []
  | 1 => L0
  | _ => L1
theorem kJumped_c (w : Wa) (fF fS : Bool) (n : Nat) (hg : GoodW w n) (hne : tryI w n 0 8 = [] → tryI w n 1 8 ≠ []) :
    PCalls Try.prog 27 [.agg (w.cs fF fS)] (.tup [.sl (ints (if tryI w n 0 8 = [] then tryI w n 1 8 else tryI w n 0 8)) (if tryI w n 0 8 = [] then tryI w n 1 8 else tryI w n 0 8).length true, .int .i64 0]) := by
  have hW := kWatched_c w fF fS n hg
  have hT0 := kTry_c w fF fS n 0 hg (by omega)
  have hT1 := kTry_c w fF fS n 1 hg (by omega)
  have hfl := hg.fl
  have hsl := hg.sl
  generalize hL0 : tryI w n 0 8 = L0 at *
  generalize hL1 : tryI w n 1 8 = L1 at *
  generalize hRL : (if L0 = [] then L1 else L0) = RL
  refine pcalls_by Try.mixes (Spec.oneH_ok (shotH_ok (r := (_, [_, _, _])) hW) (Spec.oneH_ok (two_ok (r := (_, [_, _, _, _])) (r' := (_, [_, _, _, _])) hT0 hT1) noSpec_ok)) (fn := Try.f27) Try.func27 rfl (by kernel_rfl) (by show 1 ≤ _; decide) ?_
  simp (decide := true) (maxSteps := 4000000) only [go_sem, Nat.reduceAdd, Nat.reduceSub, Nat.reduceMul, Nat.reduceDiv, Nat.reduceMod, Nat.reduceLT, Nat.reduceLeDiff, Nat.reduceEqDiff, Nat.reduceBEq, Nat.reduceBNe, Nat.reduceGT, Int.reduceAdd, Int.reduceSub, Int.reduceMul, Int.reduceNeg, Int.reduceLT, Int.reduceLE, Int.reduceEq, Int.reduceNe, Int.reduceBEq, Int.reduceBNe, Int.reduceToNat, Int.reduceGT, Int.reduceGE, ↓reduceIte, decide_true, decide_false, eq_self, Nat.mul_one, Nat.zero_mul, Nat.one_mul, Int.le_refl, Nat.le_refl, Int.cast_ofNat_Int, Try.f27, Wa.cs, hfl, hsl, wCells, consP, aggP, allO]
  refine pwpC_loopU (A := { k : Nat // k ≤ 2 ∧ (k = 2 → L0 = []) }) [4, 6, 7] (fun k => [(8, .t (.int .i64 k.1))]) (fun k => [(5, .box [.own (ints (outL L0 L1 k.1)) (outL L0 L1 k.1).length 6]), (6, .tok (outL L0 L1 k.1).length 3)]) (fun k => 2 - k.1) ⟨0, by omega, fun h => by cases h⟩ (by decide) (fun _ => by rfl) ?_ fun Q1 hQ1 ⟨k, hk, hk0⟩ I1 hI1 => ?_
  · simp (decide := true) (maxSteps := 4000000) only [go_sem, Nat.reduceAdd, Nat.reduceSub, Nat.reduceMul, Nat.reduceDiv, Nat.reduceMod, Nat.reduceLT, Nat.reduceLeDiff, Nat.reduceEqDiff, Nat.reduceBEq, Nat.reduceBNe, Nat.reduceGT, Int.reduceAdd, Int.reduceSub, Int.reduceMul, Int.reduceNeg, Int.reduceLT, Int.reduceLE, Int.reduceEq, Int.reduceNe, Int.reduceBEq, Int.reduceBNe, Int.reduceToNat, Int.reduceGT, Int.reduceGE, ↓reduceIte, decide_true, decide_false, eq_self, Nat.mul_one, Nat.zero_mul, Nat.one_mul, Int.le_refl, Nat.le_refl, Int.cast_ofNat_Int, outL, show ints [] = [] from rfl]
    first | done | trace_state
  · by_cases hz : outL L0 L1 k = []
    · have hzn : (outL L0 L1 k).length = 0 := by rw [hz]; rfl
      rcases (by omega : k = 0 ∨ k = 1 ∨ k = 2) with rfl | rfl | rfl
      · simp (decide := true) (maxSteps := 4000000) only [go_sem, Nat.reduceAdd, Nat.reduceSub, Nat.reduceMul, Nat.reduceDiv, Nat.reduceMod, Nat.reduceLT, Nat.reduceLeDiff, Nat.reduceEqDiff, Nat.reduceBEq, Nat.reduceBNe, Nat.reduceGT, Int.reduceAdd, Int.reduceSub, Int.reduceMul, Int.reduceNeg, Int.reduceLT, Int.reduceLE, Int.reduceEq, Int.reduceNe, Int.reduceBEq, Int.reduceBNe, Int.reduceToNat, Int.reduceGT, Int.reduceGE, ↓reduceIte, decide_true, decide_false, eq_self, Nat.mul_one, Nat.zero_mul, Nat.one_mul, Int.le_refl, Nat.le_refl, Int.cast_ofNat_Int, hz, show ints [] = [] from rfl]
        refine hI1 _ ⟨1, by omega, fun h => by cases h⟩ (by simp only; omega) ?_
        simp (decide := true) (maxSteps := 4000000) only [go_sem, Nat.reduceAdd, Nat.reduceSub, Nat.reduceMul, Nat.reduceDiv, Nat.reduceMod, Nat.reduceLT, Nat.reduceLeDiff, Nat.reduceEqDiff, Nat.reduceBEq, Nat.reduceBNe, Nat.reduceGT, Int.reduceAdd, Int.reduceSub, Int.reduceMul, Int.reduceNeg, Int.reduceLT, Int.reduceLE, Int.reduceEq, Int.reduceNe, Int.reduceBEq, Int.reduceBNe, Int.reduceToNat, Int.reduceGT, Int.reduceGE, ↓reduceIte, decide_true, decide_false, eq_self, Nat.mul_one, Nat.zero_mul, Nat.one_mul, Int.le_refl, Nat.le_refl, Int.cast_ofNat_Int, outL]
        first | done | trace_state
      · simp (decide := true) (maxSteps := 4000000) only [go_sem, Nat.reduceAdd, Nat.reduceSub, Nat.reduceMul, Nat.reduceDiv, Nat.reduceMod, Nat.reduceLT, Nat.reduceLeDiff, Nat.reduceEqDiff, Nat.reduceBEq, Nat.reduceBNe, Nat.reduceGT, Int.reduceAdd, Int.reduceSub, Int.reduceMul, Int.reduceNeg, Int.reduceLT, Int.reduceLE, Int.reduceEq, Int.reduceNe, Int.reduceBEq, Int.reduceBNe, Int.reduceToNat, Int.reduceGT, Int.reduceGE, ↓reduceIte, decide_true, decide_false, eq_self, Nat.mul_one, Nat.zero_mul, Nat.one_mul, Int.le_refl, Nat.le_refl, Int.cast_ofNat_Int, hz, show ints [] = [] from rfl]
        refine hI1 _ ⟨2, by omega, fun h => hz⟩ (by simp only; omega) ?_
        simp (decide := true) (maxSteps := 4000000) only [go_sem, Nat.reduceAdd, Nat.reduceSub, Nat.reduceMul, Nat.reduceDiv, Nat.reduceMod, Nat.reduceLT, Nat.reduceLeDiff, Nat.reduceEqDiff, Nat.reduceBEq, Nat.reduceBNe, Nat.reduceGT, Int.reduceAdd, Int.reduceSub, Int.reduceMul, Int.reduceNeg, Int.reduceLT, Int.reduceLE, Int.reduceEq, Int.reduceNe, Int.reduceBEq, Int.reduceBNe, Int.reduceToNat, Int.reduceGT, Int.reduceGE, ↓reduceIte, decide_true, decide_false, eq_self, Nat.mul_one, Nat.zero_mul, Nat.one_mul, Int.le_refl, Nat.le_refl, Int.cast_ofNat_Int, outL]
        first | done | trace_state
      · exact (hne (hk0 rfl) hz).elim
    · have hzn : ¬ (outL L0 L1 k).length = 0 := fun h => hz (List.eq_nil_of_length_eq_zero h)
      have hzi : (((outL L0 L1 k).length : Int) == 0) = false := by simp; exact hz
      have hfin : RL = outL L0 L1 k := by
        rw [← hRL]
        rcases (by omega : k = 0 ∨ k = 1 ∨ k = 2) with rfl | rfl | rfl
        · exact (hz rfl).elim
        · have hz : L0 ≠ [] := hz
          rw [if_neg hz]; rfl
        · rw [if_pos (hk0 rfl)]; rfl
      have hil := ints_len (outL L0 L1 k)
      have htk2 : (ints (outL L0 L1 k)).take (outL L0 L1 k).length = ints (outL L0 L1 k) := List.take_of_length_le (by rw [hil]; exact Nat.le_refl _)
      subst hfin
      simp (decide := true) (maxSteps := 4000000) only [go_sem, Nat.reduceAdd, Nat.reduceSub, Nat.reduceMul, Nat.reduceDiv, Nat.reduceMod, Nat.reduceLT, Nat.reduceLeDiff, Nat.reduceEqDiff, Nat.reduceBEq, Nat.reduceBNe, Nat.reduceGT, Int.reduceAdd, Int.reduceSub, Int.reduceMul, Int.reduceNeg, Int.reduceLT, Int.reduceLE, Int.reduceEq, Int.reduceNe, Int.reduceBEq, Int.reduceBNe, Int.reduceToNat, Int.reduceGT, Int.reduceGE, ↓reduceIte, decide_true, decide_false, eq_self, Nat.mul_one, Nat.zero_mul, Nat.one_mul, Int.le_refl, Nat.le_refl, Int.cast_ofNat_Int, hzi]
      refine hQ1 _ _ ?_
      simp (decide := true) (maxSteps := 4000000) only [go_sem, Nat.reduceAdd, Nat.reduceSub, Nat.reduceMul, Nat.reduceDiv, Nat.reduceMod, Nat.reduceLT, Nat.reduceLeDiff, Nat.reduceEqDiff, Nat.reduceBEq, Nat.reduceBNe, Nat.reduceGT, Int.reduceAdd, Int.reduceSub, Int.reduceMul, Int.reduceNeg, Int.reduceLT, Int.reduceLE, Int.reduceEq, Int.reduceNe, Int.reduceBEq, Int.reduceBNe, Int.reduceToNat, Int.reduceGT, Int.reduceGE, ↓reduceIte, decide_true, decide_false, eq_self, Nat.mul_one, Nat.zero_mul, Nat.one_mul, Int.le_refl, Nat.le_refl, Int.cast_ofNat_Int, hzn, hil, Nat.mul_one, htk2]
theorem kSince_c (w : Wa) (fF fS : Bool) (n : Nat) (hg : GoodW w n) (d : Nat) (hd : d ≤ n) (h1 : ∀ d', d' < d → canB w 0 (d' + 1) = true) (h2 : d < n → canB w 0 (d + 1) = false) :
    PCalls Try.prog 28 [.agg (w.cs fF fS)] (.tup [.int .i64 (if d < n then (d : Int) else 0), .int .i64 (if d < n then 0 else 4)]) := by
  have hW := kWatched_c w fF fS n hg
  have hfl := hg.fl
  have hsl := hg.sl
  have h20 := hg.n20
  refine pcalls_by Try.mixes (Spec.oneH_ok (shotH_ok (r := (_, [_, _, _])) hW) (Spec.oneH_ok (gCan_ok (fun j => j = 0) (fun j h => .inl h) w fF fS n hg) noSpec_ok)) (fn := Try.f28) Try.func28 rfl (by kernel_rfl) (by show 1 ≤ _; decide) ?_
  simp (decide := true) (maxSteps := 4000000) only [go_sem, Nat.reduceAdd, Nat.reduceSub, Nat.reduceMul, Nat.reduceDiv, Nat.reduceMod, Nat.reduceLT, Nat.reduceLeDiff, Nat.reduceEqDiff, Nat.reduceBEq, Nat.reduceBNe, Nat.reduceGT, Int.reduceAdd, Int.reduceSub, Int.reduceMul, Int.reduceNeg, Int.reduceLT, Int.reduceLE, Int.reduceEq, Int.reduceNe, Int.reduceBEq, Int.reduceBNe, Int.reduceToNat, Int.reduceGT, Int.reduceGE, ↓reduceIte, decide_true, decide_false, eq_self, Nat.mul_one, Nat.zero_mul, Nat.one_mul, Int.le_refl, Nat.le_refl, Int.cast_ofNat_Int, Try.f28, Wa.cs, hfl, hsl, wCells, consP, aggP, allO]
  refine pwpC_loopU (A := { k : Nat // k ≤ d }) [4, 16] (fun k => [(17, .t (.int .i64 k.1))]) (fun _ => []) (fun k => d - k.1) ⟨0, by omega⟩ (by decide) (fun _ => by rfl) ?_ fun Q1 hQ1 ⟨k, hk⟩ I1 hI1 => ?_
  · simp (decide := true) (maxSteps := 4000000) only [go_sem, Nat.reduceAdd, Nat.reduceSub, Nat.reduceMul, Nat.reduceDiv, Nat.reduceMod, Nat.reduceLT, Nat.reduceLeDiff, Nat.reduceEqDiff, Nat.reduceBEq, Nat.reduceBNe, Nat.reduceGT, Int.reduceAdd, Int.reduceSub, Int.reduceMul, Int.reduceNeg, Int.reduceLT, Int.reduceLE, Int.reduceEq, Int.reduceNe, Int.reduceBEq, Int.reduceBNe, Int.reduceToNat, Int.reduceGT, Int.reduceGE, ↓reduceIte, decide_true, decide_false, eq_self, Nat.mul_one, Nat.zero_mul, Nat.one_mul, Int.le_refl, Nat.le_refl, Int.cast_ofNat_Int]
  · by_cases hlt : (k : Int) < n
    · have hw1 : IntKind.i64.wrap ((k : Int) + 1) = ((k + 1 : Nat) : Int) := by rw [wrap_in (by omega) (by omega)]; omega
      have c1 : (1 : Int) ≤ ((k + 1 : Nat) : Int) ∧ ((k + 1 : Nat) : Int) ≤ n := by omega
      simp (decide := true) (maxSteps := 4000000) only [go_sem, Nat.reduceAdd, Nat.reduceSub, Nat.reduceMul, Nat.reduceDiv, Nat.reduceMod, Nat.reduceLT, Nat.reduceLeDiff, Nat.reduceEqDiff, Nat.reduceBEq, Nat.reduceBNe, Nat.reduceGT, Int.reduceAdd, Int.reduceSub, Int.reduceMul, Int.reduceNeg, Int.reduceLT, Int.reduceLE, Int.reduceEq, Int.reduceNe, Int.reduceBEq, Int.reduceBNe, Int.reduceToNat, Int.reduceGT, Int.reduceGE, ↓reduceIte, decide_true, decide_false, eq_self, Nat.mul_one, Nat.zero_mul, Nat.one_mul, Int.le_refl, Nat.le_refl, Int.cast_ofNat_Int, hlt, hw1, wV, wCells, consP, c1, aggP, allO, List.map_cons, List.map_nil]
      by_cases hkd : k = d
      · subst hkd
        have hc := h2 (by omega)
        have hdn : k < n := by omega
        simp (decide := true) (maxSteps := 4000000) only [go_sem, Nat.reduceAdd, Nat.reduceSub, Nat.reduceMul, Nat.reduceDiv, Nat.reduceMod, Nat.reduceLT, Nat.reduceLeDiff, Nat.reduceEqDiff, Nat.reduceBEq, Nat.reduceBNe, Nat.reduceGT, Int.reduceAdd, Int.reduceSub, Int.reduceMul, Int.reduceNeg, Int.reduceLT, Int.reduceLE, Int.reduceEq, Int.reduceNe, Int.reduceBEq, Int.reduceBNe, Int.reduceToNat, Int.reduceGT, Int.reduceGE, ↓reduceIte, decide_true, decide_false, eq_self, Nat.mul_one, Nat.zero_mul, Nat.one_mul, Int.le_refl, Nat.le_refl, Int.cast_ofNat_Int, hc]
        refine hQ1 _ _ ?_
        simp (decide := true) (maxSteps := 4000000) only [go_sem, Nat.reduceAdd, Nat.reduceSub, Nat.reduceMul, Nat.reduceDiv, Nat.reduceMod, Nat.reduceLT, Nat.reduceLeDiff, Nat.reduceEqDiff, Nat.reduceBEq, Nat.reduceBNe, Nat.reduceGT, Int.reduceAdd, Int.reduceSub, Int.reduceMul, Int.reduceNeg, Int.reduceLT, Int.reduceLE, Int.reduceEq, Int.reduceNe, Int.reduceBEq, Int.reduceBNe, Int.reduceToNat, Int.reduceGT, Int.reduceGE, ↓reduceIte, decide_true, decide_false, eq_self, Nat.mul_one, Nat.zero_mul, Nat.one_mul, Int.le_refl, Nat.le_refl, Int.cast_ofNat_Int, hdn]
        first | done | trace_state
      · have hc := h1 k (by omega)
        simp (decide := true) (maxSteps := 4000000) only [go_sem, Nat.reduceAdd, Nat.reduceSub, Nat.reduceMul, Nat.reduceDiv, Nat.reduceMod, Nat.reduceLT, Nat.reduceLeDiff, Nat.reduceEqDiff, Nat.reduceBEq, Nat.reduceBNe, Nat.reduceGT, Int.reduceAdd, Int.reduceSub, Int.reduceMul, Int.reduceNeg, Int.reduceLT, Int.reduceLE, Int.reduceEq, Int.reduceNe, Int.reduceBEq, Int.reduceBNe, Int.reduceToNat, Int.reduceGT, Int.reduceGE, ↓reduceIte, decide_true, decide_false, eq_self, Nat.mul_one, Nat.zero_mul, Nat.one_mul, Int.le_refl, Nat.le_refl, Int.cast_ofNat_Int, hc]
        refine hI1 _ ⟨k + 1, by omega⟩ (by simp only; omega) ?_
        simp (decide := true) (maxSteps := 4000000) only [go_sem, Nat.reduceAdd, Nat.reduceSub, Nat.reduceMul, Nat.reduceDiv, Nat.reduceMod, Nat.reduceLT, Nat.reduceLeDiff, Nat.reduceEqDiff, Nat.reduceBEq, Nat.reduceBNe, Nat.reduceGT, Int.reduceAdd, Int.reduceSub, Int.reduceMul, Int.reduceNeg, Int.reduceLT, Int.reduceLE, Int.reduceEq, Int.reduceNe, Int.reduceBEq, Int.reduceBNe, Int.reduceToNat, Int.reduceGT, Int.reduceGE, ↓reduceIte, decide_true, decide_false, eq_self, Nat.mul_one, Nat.zero_mul, Nat.one_mul, Int.le_refl, Nat.le_refl, Int.cast_ofNat_Int, hw1]
        first | done | trace_state
    · have hdn : ¬ d < n := by omega
      simp (decide := true) (maxSteps := 4000000) only [go_sem, Nat.reduceAdd, Nat.reduceSub, Nat.reduceMul, Nat.reduceDiv, Nat.reduceMod, Nat.reduceLT, Nat.reduceLeDiff, Nat.reduceEqDiff, Nat.reduceBEq, Nat.reduceBNe, Nat.reduceGT, Int.reduceAdd, Int.reduceSub, Int.reduceMul, Int.reduceNeg, Int.reduceLT, Int.reduceLE, Int.reduceEq, Int.reduceNe, Int.reduceBEq, Int.reduceBNe, Int.reduceToNat, Int.reduceGT, Int.reduceGE, ↓reduceIte, decide_true, decide_false, eq_self, Nat.mul_one, Nat.zero_mul, Nat.one_mul, Int.le_refl, Nat.le_refl, Int.cast_ofNat_Int, hlt]
      refine hQ1 _ _ ?_
      simp (decide := true) (maxSteps := 4000000) only [go_sem, Nat.reduceAdd, Nat.reduceSub, Nat.reduceMul, Nat.reduceDiv, Nat.reduceMod, Nat.reduceLT, Nat.reduceLeDiff, Nat.reduceEqDiff, Nat.reduceBEq, Nat.reduceBNe, Nat.reduceGT, Int.reduceAdd, Int.reduceSub, Int.reduceMul, Int.reduceNeg, Int.reduceLT, Int.reduceLE, Int.reduceEq, Int.reduceNe, Int.reduceBEq, Int.reduceBNe, Int.reduceToNat, Int.reduceGT, Int.reduceGE, ↓reduceIte, decide_true, decide_false, eq_self, Nat.mul_one, Nat.zero_mul, Nat.one_mul, Int.le_refl, Nat.le_refl, Int.cast_ofNat_Int, hdn]
      first | done | trace_state
end Go.Proofs.Ytadkjjnnnkfalaa

/- Part Kr. -/
namespace Go.Ok
open Go Go.RowKit Go.Pm Go.Oc Go.Oh Go.Os
/-- The errors p can be so. -/
def Holds (w : Wa) (jb : Nat → Bool) (n : Nat) (p : Nat → Nat → Int) : Prop := ∀ d, d < n →
  (tempAt w.F d - w.wr ≤ p 0 d - p 1 d ∧ p 0 d - p 1 d ≤ tempAt w.F d + w.wr) ∧ (tempAt w.S d - w.wr ≤ p 1 d - p 2 d ∧ p 1 d - p 2 d ≤ tempAt w.S d + w.wr) ∧
  ∀ c, c < 3 → 0 < d → jb c = false → (w.r c).lo ≤ p c d - p c (d - 1) ∧ p c d - p c (d - 1) ≤ (w.r c).hi
theorem apR_sol {f : Nat → Int} {c d c' d' : Int} {s : Span} : (∀ r ∈ apR c d c' d' s, f (W5.rul r).of ≤ f (W5.rul r).than + (W5.rul r).more) ↔ s.lo ≤ f (c * 20 + d).toNat - f (c' * 20 + d').toNat ∧ f (c * 20 + d).toNat - f (c' * 20 + d').toNat ≤ s.hi := by
  simp only [apR, List.mem_cons, List.not_mem_nil, or_false, forall_eq_or_imp, forall_eq, W5.rul]
  omega
theorem holds_sol {w : Wa} {jb : Nat → Bool} {n : Nat} {f : Nat → Int} : solves f (rulsR w jb n) ↔ Holds w jb n (fun c d => f (c * 20 + d)) := by
  have e1 : solves f (rulsR w jb n) ↔ ∀ r ∈ rulesR w jb n, f (W5.rul r).of ≤ f (W5.rul r).than + (W5.rul r).more := by
    unfold solves rulsR
    constructor
    · intro h r hr; exact h _ (List.mem_map_of_mem hr)
    · intro h r hr; obtain ⟨q, hq, rfl⟩ := List.mem_map.1 hr; exact h q hq
  have n0 : ∀ d : Nat, ((0 : Int) * 20 + d).toNat = 0 * 20 + d := fun d => by omega
  have n1 : ∀ d : Nat, ((1 : Int) * 20 + d).toNat = 1 * 20 + d := fun d => by omega
  have n2 : ∀ d : Nat, ((2 : Int) * 20 + d).toNat = 2 * 20 + d := fun d => by omega
  have nc : ∀ c d : Nat, ((c : Int) * 20 + d).toNat = c * 20 + d := fun c d => by omega
  have nd : ∀ c d : Nat, 0 < d → ((c : Int) * 20 + ((d : Int) - 1)).toNat = c * 20 + (d - 1) := fun c d h => by omega
  rw [e1]
  constructor
  · intro h d hd
    have hin : ∀ r ∈ dayR w jb d 3, r ∈ rulesR w jb n := fun r hr => List.mem_flatMap.2 ⟨d, List.mem_range.2 hd, hr⟩
    have a1 := apR_sol.1 fun r hr => h r (hin r (List.mem_append_left _ (List.mem_append_left _ hr)))
    have a2 := apR_sol.1 fun r hr => h r (hin r (List.mem_append_left _ (List.mem_append_right _ hr)))
    rw [n0, n1] at a1
    rw [n1, n2] at a2
    refine ⟨by simp only at a1 ⊢; omega, by simp only at a2 ⊢; omega, fun c hc h0 hj => ?_⟩
    have a3 := apR_sol.1 fun r hr => h r (hin r (List.mem_append_right _ (List.mem_flatMap.2 ⟨c, List.mem_range.2 hc, by unfold rateR; rw [if_pos ⟨h0, hj⟩]; exact hr⟩)))
    rw [nc, nd c d h0] at a3
    exact a3
  · intro h r hr
    obtain ⟨d, hd, hr⟩ := List.mem_flatMap.1 hr
    obtain ⟨h1, h2, h3⟩ := h d (List.mem_range.1 hd)
    rcases List.mem_append.1 hr with hr | hr
    · rcases List.mem_append.1 hr with hr | hr
      · exact apR_sol.2 (by rw [n0, n1]; simp only at h1 ⊢; omega) r hr
      · exact apR_sol.2 (by rw [n1, n2]; simp only at h2 ⊢; omega) r hr
    · obtain ⟨c, hc, hr⟩ := List.mem_flatMap.1 hr
      unfold rateR at hr
      split at hr
      · rename_i h0
        exact apR_sol.2 (by rw [nc, nd c d h0.1]; exact h3 c (List.mem_range.1 hc) h0.1 h0.2) r hr
      · cases hr
theorem ruls_lt {w : Wa} {n : Nat} (hg : w.good n) (h20 : n ≤ 20) (jb : Nat → Bool) : ∀ r ∈ rulsR w jb n, r.of < 60 ∧ r.than < 60 := by
  intro r hr
  obtain ⟨q, hq, rfl⟩ := List.mem_map.1 hr
  obtain ⟨h1, h2, h3, h4, _⟩ := rulesR_ok hg jb q hq
  unfold W5.rul
  simp only
  omega
open Classical in
/-- It comes to rest if and only if there are such errors. -/
theorem can_of {w : Wa} {j : Int} {n : Nat} (hg : w.good n) (h20 : n ≤ 20) {p : Nat → Nat → Int} (h : Holds w (jbit j) n p) : canB w j n = true := by
  unfold canB
  refine @decide_eq_true _ (_) ?_
  have hs : solves (fun v => p (v / 20) (v % 20)) (rulsR w (jbit j) n) := by
    rw [holds_sol]
    intro d hd
    have e : ∀ c k : Nat, k < 20 → p ((c * 20 + k) / 20) ((c * 20 + k) % 20) = p c k := fun c k hk => by
      rw [show (c * 20 + k) / 20 = c by omega, show (c * 20 + k) % 20 = k by omega]
    obtain ⟨h1, h2, h3⟩ := h d hd
    simp only [e 0 d (by omega), e 1 d (by omega), e 2 d (by omega)]
    refine ⟨h1, h2, fun c hc h0 hj => ?_⟩
    rw [e c d (by omega), e c (d - 1) (by omega)]
    exact h3 c hc h0 hj
  exact ⟨60, by omega, fun v _ => rnds_steady (ruls_lt hg h20 _) hs v⟩
open Classical in
theorem can_only {w : Wa} {j : Int} {n : Nat} (hg : w.good n) (h20 : n ≤ 20) (h : canB w j n = true) : ∃ p, Holds w (jbit j) n p := by
  unfold canB at h
  obtain ⟨i, _, hs⟩ := @of_decide_eq_true _ (_) h
  have hl := ruls_lt hg h20 (jbit j)
  refine ⟨fun c d => rnds (rulsR w (jbit j) n) (fun _ => 0) i (c * 20 + d), holds_sol.1 (steady_solves _ _ fun v => ?_)⟩
  by_cases hv : v < 60
  · exact hs v hv
  · exact rnd_out _ _ hl v (by omega)
theorem holds_less {w : Wa} {jb : Nat → Bool} {n m : Nat} {p : Nat → Nat → Int} (hm : m ≤ n) (h : Holds w jb n p) : Holds w jb m p := fun d hd => h d (by omega)
/-- By how much a clock has jumped on a day. -/
def jmp (who on : Nat) (J : Int) (c d : Nat) : Int := if c = who ∧ on ≤ d then J else 0
/-- A watch of the errors l, of which one has jumped. -/
structure Watch (w : Wa) (n : Nat) (l : Nat → Nat → Int) (r : Span) (who on : Nat) (J : Int) : Prop where
  fs : ∀ d, d < n → -w.wr ≤ tempAt w.F d - (l 0 d + jmp who on J 0 d - (l 1 d + jmp who on J 1 d)) ∧ tempAt w.F d - (l 0 d + jmp who on J 0 d - (l 1 d + jmp who on J 1 d)) ≤ w.wr
  ss : ∀ d, d < n → -w.wr ≤ tempAt w.S d - (l 1 d + jmp who on J 1 d - (l 2 d + jmp who on J 2 d)) ∧ tempAt w.S d - (l 1 d + jmp who on J 1 d - (l 2 d + jmp who on J 2 d)) ≤ w.wr
  rs : ∀ c d, c < 3 → 0 < d → d < n → r.lo ≤ l c d - l c (d - 1) ∧ l c d - l c (d - 1) ≤ r.hi
  rr : ∀ c, c < 3 → w.r c = r
theorem Watch.before {w : Wa} {n : Nat} {l : Nat → Nat → Int} {r : Span} {who on : Nat} {J : Int} (h : Watch w n l r who on J) {m : Nat} (hm : m ≤ n) (ho : m ≤ on) (jb : Nat → Bool) : Holds w jb m l := by
  intro d hd
  have j : ∀ c, jmp who on J c d = 0 := fun c => by unfold jmp; rw [if_neg (by omega)]
  have a := h.fs d (by omega)
  have b := h.ss d (by omega)
  rw [j 0, j 1] at a
  rw [j 1, j 2] at b
  exact ⟨by omega, by omega, fun c hc h0 _ => by rw [h.rr c hc]; exact h.rs c d hc h0 (by omega)⟩
theorem Watch.left {w : Wa} {n : Nat} {l : Nat → Nat → Int} {r : Span} {who on : Nat} {J : Int} (h : Watch w n l r who on J) {jb : Nat → Bool} (hj : jb who = true) : Holds w jb n (fun c d => l c d + jmp who on J c d) := by
  intro d hd
  refine ⟨by have := h.fs d hd; simp only; omega, by have := h.ss d hd; simp only; omega, fun c hc h0 hjc => ?_⟩
  have hne : ¬ c = who := fun e => by subst e; rw [hj] at hjc; cases hjc
  have j : ∀ d, jmp who on J c d = 0 := fun d => by unfold jmp; rw [if_neg (fun e => hne e.1)]
  simp only [j]
  rw [h.rr c hc]
  have := h.rs c d hc h0 hd
  omega
theorem Watch.none {w : Wa} {n : Nat} {l : Nat → Nat → Int} {r : Span} {who on : Nat} {J : Int} (h : Watch w n l r who on J) (hw : who < 3) (h0 : 0 < on) (ho : on < n) (hJ : 2 * (r.hi - r.lo) + 4 * w.wr < J) {m : Nat} (hm : on < m) {jb : Nat → Bool} (hjb : ∀ c, c < 3 → jb c = false) (p : Nat → Nat → Int) : ¬ Holds w jb m p := by
  intro hp
  obtain ⟨a1, a2, a3⟩ := hp on hm
  obtain ⟨b1, b2, _⟩ := hp (on - 1) (by omega)
  have f1 := h.fs on ho
  have f0 := h.fs (on - 1) (by omega)
  have s1 := h.ss on ho
  have s0 := h.ss (on - 1) (by omega)
  have r0 := h.rs 0 on (by omega) h0 ho
  have r1 := h.rs 1 on (by omega) h0 ho
  have r2 := h.rs 2 on (by omega) h0 ho
  have q0 := a3 0 (by omega) h0 (hjb 0 (by omega))
  have q1 := a3 1 (by omega) h0 (hjb 1 (by omega))
  have q2 := a3 2 (by omega) h0 (hjb 2 (by omega))
  rw [h.rr 0 (by omega)] at q0
  rw [h.rr 1 (by omega)] at q1
  rw [h.rr 2 (by omega)] at q2
  have j0 : ∀ c, jmp who on J c (on - 1) = 0 := fun c => by unfold jmp; rw [if_neg (by omega)]
  have j1 : ∀ c, jmp who on J c on = if c = who then J else 0 := fun c => by unfold jmp; by_cases e : c = who <;> simp [e]
  rw [j0, j0] at f0 s0
  rw [j1, j1] at f1 s1
  rcases (by omega : who = 0 ∨ who = 1 ∨ who = 2) with rfl | rfl | rfl
  · simp only [if_true, show ¬ (1 : Nat) = 0 by omega, if_false] at f1; omega
  · simp only [if_true, show ¬ (0 : Nat) = 1 by omega, if_false] at f1; omega
  · simp only [if_true, show ¬ (1 : Nat) = 2 by omega, if_false] at s1; omega
/-- An error of a day differs from that of the day before by no more than the cone does. -/
theorem err_cone {c : Ck} {d : List Span} {t : Tru} (h : GoodK c) (hd : daysOk c d = true) (hT : GoodT c d t) {k : Nat} (hk : k < d.length) : (coneAt c d (k + 1)).lo - (coneAt c d k).lo ≤ errAt c t (k + 1) - errAt c t k ∧ errAt c t (k + 1) - errAt c t k ≤ (coneAt c d (k + 1)).hi - (coneAt c d k).hi := by
  have hd' := daysOk_iff hd
  have hs := hd'.2.2 k hk
  have ht := hT.ts k hk
  have hra := ratOk_iff (h.rat (t := tempAt t.ts k) (by omega) (by omega))
  have m1 := rateP_mono hra (g := gLo c) (g' := t.g) (fun i hi => (hT.rs i hi).1)
  have m2 := rateP_mono hra (g := t.g) (g' := gHi c) (fun i hi => (hT.rs i hi).2)
  have hin : tempAt t.ts k ∈ degs (atS d k) := degs_mem.2 ht
  have l1 : dayLo c (atS d k) ≤ rateP c.temps (gLo c) (tempAt t.ts k) := (minL_le _ _).2 _ (List.mem_map_of_mem hin)
  have l2 : rateP c.temps (gHi c) (tempAt t.ts k) ≤ dayHi c (atS d k) := (maxL_le _ _).2 _ (List.mem_map_of_mem hin)
  have e1 : errAt c t (k + 1) = errAt c t k + (rateP c.temps t.g (tempAt t.ts k) + t.age * (k : Nat)) := rfl
  have e2 : coneAt c d (k + 1) = ⟨(coneAt c d k).lo + dayLo c (atS d k) + c.age.lo * (k : Nat), (coneAt c d k).hi + dayHi c (atS d k) + c.age.hi * (k : Nat)⟩ := rfl
  have a1 := Int.mul_le_mul_of_nonneg_right hT.age.1 (show (0 : Int) ≤ (k : Nat) by omega)
  have a2 := Int.mul_le_mul_of_nonneg_right hT.age.2 (show (0 : Int) ≤ (k : Nat) by omega)
  rw [e1, e2]
  simp only
  omega
/-- What is tried, if all can be so. -/
theorem try_zero {w : Wa} {n : Nat} (h : canB w 0 n = true) : tryI w n 0 8 = [0] := by
  have hp : ∀ s, s < 8 → tryP w n 0 s = decide (s = 0) := by
    intro s hs
    unfold tryP
    rcases (by omega : s = 0 ∨ s = 1 ∨ s = 2 ∨ s = 3 ∨ s = 4 ∨ s = 5 ∨ s = 6 ∨ s = 7) with rfl | rfl | rfl | rfl | rfl | rfl | rfl | rfl <;> simp [popc]
    exact h
  unfold tryI tryN
  have : (List.range 8).filter (tryP w n 0) = (List.range 8).filter (fun s => decide (s = 0)) := List.filter_congr fun s hs => hp s (List.mem_range.1 hs)
  rw [this]; decide
theorem try_none {w : Wa} {n : Nat} (h : canB w 0 n = false) : tryI w n 0 8 = [] := by
  have hp : ∀ s, s < 8 → tryP w n 0 s = false := by
    intro s hs
    unfold tryP
    rcases (by omega : s = 0 ∨ s = 1 ∨ s = 2 ∨ s = 3 ∨ s = 4 ∨ s = 5 ∨ s = 6 ∨ s = 7) with rfl | rfl | rfl | rfl | rfl | rfl | rfl | rfl <;> simp [popc]
    exact h
  unfold tryI tryN
  have : (List.range 8).filter (tryP w n 0) = (List.range 8).filter (fun _ => false) := List.filter_congr fun s hs => hp s (List.mem_range.1 hs)
  rw [this]; decide
theorem try_one {w : Wa} {n who : Nat} (hw : who < 3) (h : canB w ((2 ^ who : Nat) : Int) n = true) : ((2 ^ who : Nat) : Int) ∈ tryI w n 1 8 ∧ (0 : Int) ∉ tryI w n 1 8 := by
  unfold tryI tryN
  constructor
  · refine List.mem_map.2 ⟨2 ^ who, List.mem_filter.2 ⟨List.mem_range.2 ?_, ?_⟩, rfl⟩
    · rcases (by omega : who = 0 ∨ who = 1 ∨ who = 2) with rfl | rfl | rfl <;> decide
    · unfold tryP
      rw [h]
      rcases (by omega : who = 0 ∨ who = 1 ∨ who = 2) with rfl | rfl | rfl <;> decide
  · intro hm
    obtain ⟨s, hs, e⟩ := List.mem_map.1 hm
    have : s = 0 := by omega
    subst this
    have := (List.mem_filter.1 hs).2
    unfold tryP at this
    simp [popc] at this
end Go.Ok

/- Part Ks. -/
namespace Go.Ok
open Go Go.RowKit Go.Pm Go.Oc Go.Oh Go.Os
/-- The truth that numbers choose. -/
def chS (l : List Span) (b : List Int) (o : Int) (i : Nat) : Int := chosen (atS l i).lo (atS l i).hi (pickI b (o + (i : Nat)))
def truC (c : Ck) (d : List Span) (b : List Int) (from_ : Int) : Tru :=
  ⟨(List.range c.rates.length).map (chS c.rates b (from_ + 2)), chosen c.age.lo c.age.hi (pickI b from_), chosen c.err.lo c.err.hi (pickI b (from_ + 1)), (List.range d.length).map (chS d b (from_ + 3))⟩
theorem chS_eq {l : List Span} {b : List Int} {o : Int} {i : Nat} {x : Span} (h : l[i]? = some x) {m : Int} (hm : m = o + (i : Nat)) : chosen x.lo x.hi (pickI b m) = chS l b o i := by unfold chS; rw [atS_eq h, hm]
theorem mapR_succ {g : Nat → Int} (k : Nat) : ints ((List.range (k + 1)).map g) = ints ((List.range k).map g) ++ [.int .i64 (g k)] := by rw [List.range_succ, List.map_append]; exact ints_snoc _ _
theorem mapR_app {g : Nat → Int} (k : Nat) : ints ((List.range k ++ [k]).map g) = ints ((List.range k).map g) ++ [.int .i64 (g k)] := by rw [List.map_append]; exact ints_snoc _ _
theorem mapR_len {g : Nat → Int} (k : Nat) : (ints ((List.range k).map g)).length = k := by rw [ints_len]; simp
theorem mapR_len2 {g : Nat → Int} (k : Nat) : ((List.range k).map g).length = k := by simp
theorem tempAt_map {n : Nat} {f : Nat → Int} {k : Nat} (h : k < n) : tempAt ((List.range n).map f) k = f k := tempAt_eq (by rw [List.getElem?_map, List.getElem?_range h]; rfl)
theorem truC_good {c : Ck} {d : List Span} (h : GoodK c) (hd : daysOk c d = true) (b : List Int) (from_ : Int) : GoodT c d (truC c d b from_) := by
  have hd' := daysOk_iff hd
  refine ⟨by simp [truC, h.rl], by simp [truC], chosen_mem _ (spannedB_iff.1 h.age).2.1, chosen_mem _ (spannedB_iff.1 h.err).2.1, fun k hk => ?_, fun k hk => ?_⟩
  · show _ ≤ tempAt ((List.range c.rates.length).map _) k ∧ tempAt ((List.range c.rates.length).map _) k ≤ _
    rw [tempAt_map (by rw [h.rl]; exact hk)]
    exact chosen_mem _ (spannedB_iff.1 (h.rb k hk)).2.1
  · show _ ≤ tempAt ((List.range d.length).map _) k ∧ tempAt ((List.range d.length).map _) k ≤ _
    rw [tempAt_map hk]
    exact chosen_mem _ (hd'.2.2 k hk).2.1
theorem ck_lo {c : Ck} (h : GoodK c) : 0 ≤ c.lo ∧ c.hi ≤ 60 := by
  have n0 := h.n0
  have g : ∀ k, k < c.temps.length → 0 ≤ tempAt c.temps k ∧ tempAt c.temps k ≤ 60 := fun k hk => by
    rw [tempAt_eq (List.getElem?_eq_getElem hk)]
    exact h.b _ (List.getElem_mem hk)
  exact ⟨(g 0 (by omega)).1, (g (c.temps.length - 1) (by omega)).2⟩
def plc (n : Int) : Nat → List Int → Int
  | _, [] => -1
  | k, x :: l => if x = n then (k : Int) else plc n (k + 1) l
theorem plc_in (n : Int) : ∀ (l : List Int) (k : Nat), (n ∈ l → 0 ≤ plc n k l) ∧ (n ∉ l → plc n k l = -1)
  | [], k => ⟨fun h => (by cases h), fun _ => rfl⟩
  | x :: l, k => by
    unfold plc
    have ih := plc_in n l (k + 1)
    by_cases h : x = n
    · rw [if_pos h]; exact ⟨fun _ => Int.natCast_nonneg k, fun h' => (h' (by rw [h]; exact List.mem_cons_self)).elim⟩
    · rw [if_neg h]
      exact ⟨fun h' => ih.1 ((List.mem_cons.1 h').elim (fun e => (h e.symm).elim) id), fun h' => ih.2 fun e => h' (List.mem_cons_of_mem _ e)⟩
end Go.Ok
namespace Go.Proofs.Ytadkjjnnnkfalaa
open Go.RowKit Go.Pm Go.Oc Go.Oh Go.Os Go.Ok
set_option maxRecDepth 100000
set_option linter.unusedVariables false
set_option maxHeartbeats 8000000

theorem kPlace_c {l : List Int} (fl : Bool) (hl : l.length ≤ 9223372036854775806) (n : Int) : PCalls Try.prog 30 [.sl (ints l) l.length fl, .int .i64 n] (.int .i64 (plc n 0 l)) := by
  have wl : IntKind.i64.wrap ((l.length : Int) - 1) = (l.length : Int) - 1 := wrap_in (by omega) (by omega)
  refine pcalls_by Try.mixes noSpec_ok (fn := Try.f30) Try.func30 rfl (by kernel_rfl) (by show 2 ≤ _; decide) ?_
  simp (decide := true) (maxSteps := 4000000) only [go_sem, Nat.reduceAdd, Nat.reduceSub, Nat.reduceMul, Nat.reduceDiv, Nat.reduceMod, Nat.reduceLT, Nat.reduceLeDiff, Nat.reduceEqDiff, Nat.reduceBEq, Nat.reduceBNe, Nat.reduceGT, Int.reduceAdd, Int.reduceSub, Int.reduceMul, Int.reduceNeg, Int.reduceLT, Int.reduceLE, Int.reduceEq, Int.reduceNe, Int.reduceBEq, Int.reduceBNe, Int.reduceToNat, Int.reduceGT, Int.reduceGE, ↓reduceIte, decide_true, decide_false, eq_self, Nat.mul_one, Nat.zero_mul, Nat.one_mul, Int.le_refl, Nat.le_refl, Int.cast_ofNat_Int, Try.f30, wl, List.length_nil]
  refine pwpC_loopU (A := { k : Nat // k ≤ l.length }) [0, 1] (fun k => [(6, .t (.int .i64 ((k.1 : Int) - 1))), (5, .t (.int .i64 (plc n k.1 (l.drop k.1))))]) (fun _ => []) (fun k => k.1) ⟨l.length, by omega⟩ (by decide) (fun _ => by rfl) ?_ fun Q1 hQ1 ⟨k, hk⟩ I1 hI1 => ?_
  · have hd : l.drop l.length = [] := List.drop_eq_nil_of_le (by omega)
    simp (decide := true) (maxSteps := 4000000) only [go_sem, Nat.reduceAdd, Nat.reduceSub, Nat.reduceMul, Nat.reduceDiv, Nat.reduceMod, Nat.reduceLT, Nat.reduceLeDiff, Nat.reduceEqDiff, Nat.reduceBEq, Nat.reduceBNe, Nat.reduceGT, Int.reduceAdd, Int.reduceSub, Int.reduceMul, Int.reduceNeg, Int.reduceLT, Int.reduceLE, Int.reduceEq, Int.reduceNe, Int.reduceBEq, Int.reduceBNe, Int.reduceToNat, Int.reduceGT, Int.reduceGE, ↓reduceIte, decide_true, decide_false, eq_self, Nat.mul_one, Nat.zero_mul, Nat.one_mul, Int.le_refl, Nat.le_refl, Int.cast_ofNat_Int, hd, plc]
    first | done | exact ⟨rfl, rfl⟩ | rfl
  · cases k with
    | zero =>
      have hn : ¬ (((0 : Nat) : Int) - 1 ≥ 0) := by omega
      simp (decide := true) (maxSteps := 4000000) only [go_sem, Nat.reduceAdd, Nat.reduceSub, Nat.reduceMul, Nat.reduceDiv, Nat.reduceMod, Nat.reduceLT, Nat.reduceLeDiff, Nat.reduceEqDiff, Nat.reduceBEq, Nat.reduceBNe, Nat.reduceGT, Int.reduceAdd, Int.reduceSub, Int.reduceMul, Int.reduceNeg, Int.reduceLT, Int.reduceLE, Int.reduceEq, Int.reduceNe, Int.reduceBEq, Int.reduceBNe, Int.reduceToNat, Int.reduceGT, Int.reduceGE, ↓reduceIte, decide_true, decide_false, eq_self, Nat.mul_one, Nat.zero_mul, Nat.one_mul, Int.le_refl, Nat.le_refl, Int.cast_ofNat_Int, hn]
      refine hQ1 _ _ ?_
      simp (decide := true) (maxSteps := 4000000) only [go_sem, Nat.reduceAdd, Nat.reduceSub, Nat.reduceMul, Nat.reduceDiv, Nat.reduceMod, Nat.reduceLT, Nat.reduceLeDiff, Nat.reduceEqDiff, Nat.reduceBEq, Nat.reduceBNe, Nat.reduceGT, Int.reduceAdd, Int.reduceSub, Int.reduceMul, Int.reduceNeg, Int.reduceLT, Int.reduceLE, Int.reduceEq, Int.reduceNe, Int.reduceBEq, Int.reduceBNe, Int.reduceToNat, Int.reduceGT, Int.reduceGE, ↓reduceIte, decide_true, decide_false, eq_self, Nat.mul_one, Nat.zero_mul, Nat.one_mul, Int.le_refl, Nat.le_refl, Int.cast_ofNat_Int, List.drop_zero]
    | succ k =>
      have hn : (((k + 1 : Nat) : Int) - 1 ≥ 0) := by omega
      have hkk : ((k + 1 : Nat) : Int) - 1 = (k : Int) := by omega
      have hn2 : (k : Int) ≥ 0 := by omega
      have hlt : (k : Int) < l.length := by omega
      obtain ⟨x, hx⟩ := get_lt hlt
      have d1 := ints_at hx
      rw [Nat.mul_one] at d1
      have hc1 : IntKind.i64.wrap ((k : Int) - 1) = (k : Int) - 1 := wrap_in (by omega) (by omega)
      have hdk : l.drop k = x :: l.drop (k + 1) := by rw [List.drop_eq_getElem_cons (by omega)]; rw [List.getElem?_eq_getElem (by omega)] at hx; cases hx; rfl
      have hst : plc n k (l.drop k) = if x = n then (k : Int) else plc n (k + 1) (l.drop (k + 1)) := by rw [hdk]; rfl
      by_cases hxn : x = n
      · rw [if_pos hxn] at hst
        have hb : (x == n) = true := beq_int_t hxn
        simp (decide := true) (maxSteps := 4000000) only [go_sem, Nat.reduceAdd, Nat.reduceSub, Nat.reduceMul, Nat.reduceDiv, Nat.reduceMod, Nat.reduceLT, Nat.reduceLeDiff, Nat.reduceEqDiff, Nat.reduceBEq, Nat.reduceBNe, Nat.reduceGT, Int.reduceAdd, Int.reduceSub, Int.reduceMul, Int.reduceNeg, Int.reduceLT, Int.reduceLE, Int.reduceEq, Int.reduceNe, Int.reduceBEq, Int.reduceBNe, Int.reduceToNat, Int.reduceGT, Int.reduceGE, ↓reduceIte, decide_true, decide_false, eq_self, Nat.mul_one, Nat.zero_mul, Nat.one_mul, Int.le_refl, Nat.le_refl, Int.cast_ofNat_Int, hkk, hn2, hlt, d1, hb, Int.toNat_natCast]
        refine hI1 _ ⟨k, by omega⟩ (by simp only; omega) ?_
        simp (decide := true) (maxSteps := 4000000) only [go_sem, Nat.reduceAdd, Nat.reduceSub, Nat.reduceMul, Nat.reduceDiv, Nat.reduceMod, Nat.reduceLT, Nat.reduceLeDiff, Nat.reduceEqDiff, Nat.reduceBEq, Nat.reduceBNe, Nat.reduceGT, Int.reduceAdd, Int.reduceSub, Int.reduceMul, Int.reduceNeg, Int.reduceLT, Int.reduceLE, Int.reduceEq, Int.reduceNe, Int.reduceBEq, Int.reduceBNe, Int.reduceToNat, Int.reduceGT, Int.reduceGE, ↓reduceIte, decide_true, decide_false, eq_self, Nat.mul_one, Nat.zero_mul, Nat.one_mul, Int.le_refl, Nat.le_refl, Int.cast_ofNat_Int, hc1, hst]
      · rw [if_neg hxn] at hst
        have hb : (x == n) = false := beq_int_f hxn
        simp (decide := true) (maxSteps := 4000000) only [go_sem, Nat.reduceAdd, Nat.reduceSub, Nat.reduceMul, Nat.reduceDiv, Nat.reduceMod, Nat.reduceLT, Nat.reduceLeDiff, Nat.reduceEqDiff, Nat.reduceBEq, Nat.reduceBNe, Nat.reduceGT, Int.reduceAdd, Int.reduceSub, Int.reduceMul, Int.reduceNeg, Int.reduceLT, Int.reduceLE, Int.reduceEq, Int.reduceNe, Int.reduceBEq, Int.reduceBNe, Int.reduceToNat, Int.reduceGT, Int.reduceGE, ↓reduceIte, decide_true, decide_false, eq_self, Nat.mul_one, Nat.zero_mul, Nat.one_mul, Int.le_refl, Nat.le_refl, Int.cast_ofNat_Int, hkk, hn2, hlt, d1, hb, Int.toNat_natCast]
        refine hI1 _ ⟨k, by omega⟩ (by simp only; omega) ?_
        simp (decide := true) (maxSteps := 4000000) only [go_sem, Nat.reduceAdd, Nat.reduceSub, Nat.reduceMul, Nat.reduceDiv, Nat.reduceMod, Nat.reduceLT, Nat.reduceLeDiff, Nat.reduceEqDiff, Nat.reduceBEq, Nat.reduceBNe, Nat.reduceGT, Int.reduceAdd, Int.reduceSub, Int.reduceMul, Int.reduceNeg, Int.reduceLT, Int.reduceLE, Int.reduceEq, Int.reduceNe, Int.reduceBEq, Int.reduceBNe, Int.reduceToNat, Int.reduceGT, Int.reduceGE, ↓reduceIte, decide_true, decide_false, eq_self, Nat.mul_one, Nat.zero_mul, Nat.one_mul, Int.le_refl, Nat.le_refl, Int.cast_ofNat_Int, hc1, hst]

open Classical in
/-- A contract for one call of trees alone. -/
noncomputable def shotP (a0 : List TV) (r0 : TV) : List TV → Option TV := fun a => if a = a0 then some r0 else none
theorem shotP_ok {P : Program} {f : FuncId} {a0 : List TV} {r0 : TV} (h : PCalls P f a0 r0) : ∀ a r, shotP a0 r0 a = some r → PCalls P f a r := by
  intro a r e
  unfold shotP at e
  split at e
  · rename_i hc; subst hc; cases e; exact h
  · cases e
open Classical in
@[go_sem] theorem shotP_eq (a0 : List TV) (r0 : TV) (a : List TV) : shotP a0 r0 a = if a = a0 then some r0 else none := rfl

theorem kGone_c (c : Ck) {d : List Span} (fT fR fD : Bool) (hok : ckOk c = true) (hdo : daysOk c d = true) (b : List Int) {u : TV} (hu : IsRow ic u b) (hb : b.length ≤ 9223372036854775806) (fr : Int) (hfr : 0 ≤ fr ∧ fr ≤ 100) : PCalls Try.prog 24 [c.t (.sl (ints c.temps) c.temps.length fT) (.sl (c.rates.flatMap Span.cs) c.rates.length fR), .sl (d.flatMap Span.cs) d.length fD, u, .int .i64 fr] (.tup [.sl (ints (errTo c (truC c d b fr) d.length)) d.length true, .bool true]) := by
  have hG := ckOk_good hok
  have hE := kErrors_c c (truC c d b fr) fT fR fD false false hok hdo (truC_good hG hdo b fr)
  have hd' := daysOk_iff hdo
  have hrl := hG.rl
  have hn0 := hG.n0
  have hn1 := hG.n1
  have hag := spannedB_iff.1 hG.age
  have her := spannedB_iff.1 hG.err
  have hrb := hG.rb
  have rB := rowI_is hu
  unfold rowL at rB
  simp only [unI_nil] at rB
  have eT : (truC c d b fr) = ⟨(List.range c.rates.length).map (chS c.rates b (fr + 2)), chosen c.age.lo c.age.hi (pickI b fr), chosen c.err.lo c.err.hi (pickI b (fr + 1)), (List.range d.length).map (chS d b (fr + 3))⟩ := rfl
  generalize hET : errTo c (truC c d b fr) d.length = ET at *
  generalize hTR : truC c d b fr = tr at *
  subst eT
  simp only at hE
  obtain ⟨temps, rates, ⟨a0, a1⟩, ⟨e0, e1⟩⟩ := c
  simp only at *
  refine pcalls_by Try.mixes (Spec.one_ok (shotP_ok hE) Sx.spH_ok) (fn := Try.f24) Try.func24 rfl (by kernel_rfl) (by show 4 ≤ _; decide) ?_
  have w1 : IntKind.i64.wrap (fr + 1) = fr + 1 := wrap_in (by omega) (by omega)
  have i1 : (-9223372036854775808 ≤ a0 ∧ a0 ≤ 9223372036854775807) ∧ -9223372036854775808 ≤ a1 ∧ a1 ≤ 9223372036854775807 := by omega
  have i2 : (-9223372036854775808 ≤ e0 ∧ e0 ≤ 9223372036854775807) ∧ -9223372036854775808 ≤ e1 ∧ e1 ≤ 9223372036854775807 := by omega
  simp (decide := true) (maxSteps := 4000000) only [go_sem, Nat.reduceAdd, Nat.reduceSub, Nat.reduceMul, Nat.reduceDiv, Nat.reduceMod, Nat.reduceLT, Nat.reduceLeDiff, Nat.reduceEqDiff, Nat.reduceBEq, Nat.reduceBNe, Nat.reduceGT, Int.reduceAdd, Int.reduceSub, Int.reduceMul, Int.reduceNeg, Int.reduceLT, Int.reduceLE, Int.reduceEq, Int.reduceNe, Int.reduceBEq, Int.reduceBNe, Int.reduceToNat, Int.reduceGT, Int.reduceGE, ↓reduceIte, decide_true, decide_false, eq_self, Nat.mul_one, Nat.zero_mul, Nat.one_mul, Int.le_refl, Nat.le_refl, Int.cast_ofNat_Int, Try.f24, Ck.t, Ck.cs, rB, hb, w1, i1, i2]
  refine pwpC_loopU (A := { k : Nat // k ≤ rates.length }) [1, 2, 3, 4, 10] (fun k => [(11, .t (.int .i64 k.1))]) (fun k => [(1, .box [.own (ints ((List.range k.1).map (chS rates b (fr + 2)))) k.1 2, .t (.int .i64 (chosen a0 a1 (pickI b fr))), .t (.int .i64 (chosen e0 e1 (pickI b (fr + 1)))), .t .nilSl]), (2, .tok k.1 3)]) (fun k => rates.length - k.1) ⟨0, by omega⟩ (by decide) (fun _ => by rfl) ?_ fun Q1 hQ1 ⟨k, hk⟩ I1 hI1 => ?_
  · simp (decide := true) (maxSteps := 4000000) only [go_sem, Nat.reduceAdd, Nat.reduceSub, Nat.reduceMul, Nat.reduceDiv, Nat.reduceMod, Nat.reduceLT, Nat.reduceLeDiff, Nat.reduceEqDiff, Nat.reduceBEq, Nat.reduceBNe, Nat.reduceGT, Int.reduceAdd, Int.reduceSub, Int.reduceMul, Int.reduceNeg, Int.reduceLT, Int.reduceLE, Int.reduceEq, Int.reduceNe, Int.reduceBEq, Int.reduceBNe, Int.reduceToNat, Int.reduceGT, Int.reduceGE, ↓reduceIte, decide_true, decide_false, eq_self, Nat.mul_one, Nat.zero_mul, Nat.one_mul, Int.le_refl, Nat.le_refl, Int.cast_ofNat_Int, List.map_nil, show ints [] = [] from rfl]
    first | done | trace_state
  · by_cases hlt : (k : Int) < rates.length
    · obtain ⟨x, hx⟩ : ∃ x, rates[k]? = some x := ⟨_, List.getElem?_eq_getElem (by omega)⟩
      have hdx := flat_at Span.cs (n := 2) (fun _ => rfl) hx
      have hb2 := spannedB_iff.1 (hrb k (by omega))
      rw [atS_eq hx] at hb2
      have v1 : IntKind.i64.wrap (fr + k) = fr + k := wrap_in (by omega) (by omega)
      have v2 : IntKind.i64.wrap (fr + k + 2) = fr + k + 2 := wrap_in (by omega) (by omega)
      have i3 : (-9223372036854775808 ≤ x.lo ∧ x.lo ≤ 9223372036854775807) ∧ -9223372036854775808 ≤ x.hi ∧ x.hi ≤ 9223372036854775807 := by omega
      have hc := chS_eq (b := b) (o := fr + 2) hx (m := fr + k + 2) (by omega)
      have hw1 : IntKind.i64.wrap ((k : Int) + 1) = ((k + 1 : Nat) : Int) := by rw [wrap_in (by omega) (by omega)]; omega
      have hk8 : (k + 1) * 8 ≤ 140737488355328 := by omega
      simp (decide := true) (maxSteps := 4000000) only [go_sem, Nat.reduceAdd, Nat.reduceSub, Nat.reduceMul, Nat.reduceDiv, Nat.reduceMod, Nat.reduceLT, Nat.reduceLeDiff, Nat.reduceEqDiff, Nat.reduceBEq, Nat.reduceBNe, Nat.reduceGT, Int.reduceAdd, Int.reduceSub, Int.reduceMul, Int.reduceNeg, Int.reduceLT, Int.reduceLE, Int.reduceEq, Int.reduceNe, Int.reduceBEq, Int.reduceBNe, Int.reduceToNat, Int.reduceGT, Int.reduceGE, ↓reduceIte, decide_true, decide_false, eq_self, Nat.mul_one, Nat.zero_mul, Nat.one_mul, Int.le_refl, Nat.le_refl, Int.cast_ofNat_Int, hlt, hdx, Span.cs, v1, v2, rB, hb, i3, hc, mapR_len, Nat.mul_one, hk8]
      refine hI1 _ ⟨k + 1, by omega⟩ (by simp only; omega) ?_
      simp (decide := true) (maxSteps := 4000000) only [go_sem, Nat.reduceAdd, Nat.reduceSub, Nat.reduceMul, Nat.reduceDiv, Nat.reduceMod, Nat.reduceLT, Nat.reduceLeDiff, Nat.reduceEqDiff, Nat.reduceBEq, Nat.reduceBNe, Nat.reduceGT, Int.reduceAdd, Int.reduceSub, Int.reduceMul, Int.reduceNeg, Int.reduceLT, Int.reduceLE, Int.reduceEq, Int.reduceNe, Int.reduceBEq, Int.reduceBNe, Int.reduceToNat, Int.reduceGT, Int.reduceGE, ↓reduceIte, decide_true, decide_false, eq_self, Nat.mul_one, Nat.zero_mul, Nat.one_mul, Int.le_refl, Nat.le_refl, Int.cast_ofNat_Int, hw1, mapR_app]
      first | done | trace_state
    · have hkl : k = rates.length := by omega
      subst hkl
      simp (decide := true) (maxSteps := 4000000) only [go_sem, Nat.reduceAdd, Nat.reduceSub, Nat.reduceMul, Nat.reduceDiv, Nat.reduceMod, Nat.reduceLT, Nat.reduceLeDiff, Nat.reduceEqDiff, Nat.reduceBEq, Nat.reduceBNe, Nat.reduceGT, Int.reduceAdd, Int.reduceSub, Int.reduceMul, Int.reduceNeg, Int.reduceLT, Int.reduceLE, Int.reduceEq, Int.reduceNe, Int.reduceBEq, Int.reduceBNe, Int.reduceToNat, Int.reduceGT, Int.reduceGE, ↓reduceIte, decide_true, decide_false, eq_self, Nat.mul_one, Nat.zero_mul, Nat.one_mul, Int.le_refl, Nat.le_refl, Int.cast_ofNat_Int, hlt]
      refine hQ1 _ _ ?_
      simp (decide := true) (maxSteps := 4000000) only [go_sem, Nat.reduceAdd, Nat.reduceSub, Nat.reduceMul, Nat.reduceDiv, Nat.reduceMod, Nat.reduceLT, Nat.reduceLeDiff, Nat.reduceEqDiff, Nat.reduceBEq, Nat.reduceBNe, Nat.reduceGT, Int.reduceAdd, Int.reduceSub, Int.reduceMul, Int.reduceNeg, Int.reduceLT, Int.reduceLE, Int.reduceEq, Int.reduceNe, Int.reduceBEq, Int.reduceBNe, Int.reduceToNat, Int.reduceGT, Int.reduceGE, ↓reduceIte, decide_true, decide_false, eq_self, Nat.mul_one, Nat.zero_mul, Nat.one_mul, Int.le_refl, Nat.le_refl, Int.cast_ofNat_Int]
      refine pwpC_loopU (A := { k : Nat // k ≤ d.length }) [1, 2, 3, 4, 10] (fun k => [(12, .t (.int .i64 k.1))]) (fun k => [(1, .box [.own (ints ((List.range rates.length).map (chS rates b (fr + 2)))) rates.length 2, .t (.int .i64 (chosen a0 a1 (pickI b fr))), .t (.int .i64 (chosen e0 e1 (pickI b (fr + 1)))), .own (ints ((List.range k.1).map (chS d b (fr + 3)))) k.1 3]), (3, .tok k.1 3)]) (fun k => d.length - k.1) ⟨0, by omega⟩ (by decide) (fun _ => by rfl) ?_ fun Q2 hQ2 ⟨k2, hk2⟩ I2 hI2 => ?_
      · simp (decide := true) (maxSteps := 4000000) only [go_sem, Nat.reduceAdd, Nat.reduceSub, Nat.reduceMul, Nat.reduceDiv, Nat.reduceMod, Nat.reduceLT, Nat.reduceLeDiff, Nat.reduceEqDiff, Nat.reduceBEq, Nat.reduceBNe, Nat.reduceGT, Int.reduceAdd, Int.reduceSub, Int.reduceMul, Int.reduceNeg, Int.reduceLT, Int.reduceLE, Int.reduceEq, Int.reduceNe, Int.reduceBEq, Int.reduceBNe, Int.reduceToNat, Int.reduceGT, Int.reduceGE, ↓reduceIte, decide_true, decide_false, eq_self, Nat.mul_one, Nat.zero_mul, Nat.one_mul, Int.le_refl, Nat.le_refl, Int.cast_ofNat_Int, List.map_nil, show ints [] = [] from rfl]
        first | done | trace_state
      · by_cases hlt2 : (k2 : Int) < d.length
        · obtain ⟨x, hx⟩ : ∃ x, d[k2]? = some x := ⟨_, List.getElem?_eq_getElem (by omega)⟩
          have hdx := flat_at Span.cs (n := 2) (fun _ => rfl) hx
          have hb2 := hd'.2.2 k2 (by omega)
          rw [atS_eq hx] at hb2
          have hlo := ck_lo hG
          have v1 : IntKind.i64.wrap (fr + k2) = fr + k2 := wrap_in (by omega) (by omega)
          have v2 : IntKind.i64.wrap (fr + k2 + 3) = fr + k2 + 3 := wrap_in (by omega) (by omega)
          have i3 : (-9223372036854775808 ≤ x.lo ∧ x.lo ≤ 9223372036854775807) ∧ -9223372036854775808 ≤ x.hi ∧ x.hi ≤ 9223372036854775807 := by omega
          have hc := chS_eq (b := b) (o := fr + 3) hx (m := fr + k2 + 3) (by omega)
          have hw1 : IntKind.i64.wrap ((k2 : Int) + 1) = ((k2 + 1 : Nat) : Int) := by rw [wrap_in (by omega) (by omega)]; omega
          have hk8 : (k2 + 1) * 8 ≤ 140737488355328 := by omega
          simp (decide := true) (maxSteps := 4000000) only [go_sem, Nat.reduceAdd, Nat.reduceSub, Nat.reduceMul, Nat.reduceDiv, Nat.reduceMod, Nat.reduceLT, Nat.reduceLeDiff, Nat.reduceEqDiff, Nat.reduceBEq, Nat.reduceBNe, Nat.reduceGT, Int.reduceAdd, Int.reduceSub, Int.reduceMul, Int.reduceNeg, Int.reduceLT, Int.reduceLE, Int.reduceEq, Int.reduceNe, Int.reduceBEq, Int.reduceBNe, Int.reduceToNat, Int.reduceGT, Int.reduceGE, ↓reduceIte, decide_true, decide_false, eq_self, Nat.mul_one, Nat.zero_mul, Nat.one_mul, Int.le_refl, Nat.le_refl, Int.cast_ofNat_Int, hlt2, hdx, Span.cs, v1, v2, rB, hb, i3, hc, mapR_len, Nat.mul_one, hk8]
          refine hI2 _ ⟨k2 + 1, by omega⟩ (by simp only; omega) ?_
          simp (decide := true) (maxSteps := 4000000) only [go_sem, Nat.reduceAdd, Nat.reduceSub, Nat.reduceMul, Nat.reduceDiv, Nat.reduceMod, Nat.reduceLT, Nat.reduceLeDiff, Nat.reduceEqDiff, Nat.reduceBEq, Nat.reduceBNe, Nat.reduceGT, Int.reduceAdd, Int.reduceSub, Int.reduceMul, Int.reduceNeg, Int.reduceLT, Int.reduceLE, Int.reduceEq, Int.reduceNe, Int.reduceBEq, Int.reduceBNe, Int.reduceToNat, Int.reduceGT, Int.reduceGE, ↓reduceIte, decide_true, decide_false, eq_self, Nat.mul_one, Nat.zero_mul, Nat.one_mul, Int.le_refl, Nat.le_refl, Int.cast_ofNat_Int, hw1, mapR_app]
          first | done | trace_state
        · have hkl : k2 = d.length := by omega
          subst hkl
          have n1 : ¬ rates.length = 0 := by omega
          have n2 : ¬ d.length = 0 := by omega
          simp (decide := true) (maxSteps := 4000000) only [go_sem, Nat.reduceAdd, Nat.reduceSub, Nat.reduceMul, Nat.reduceDiv, Nat.reduceMod, Nat.reduceLT, Nat.reduceLeDiff, Nat.reduceEqDiff, Nat.reduceBEq, Nat.reduceBNe, Nat.reduceGT, Int.reduceAdd, Int.reduceSub, Int.reduceMul, Int.reduceNeg, Int.reduceLT, Int.reduceLE, Int.reduceEq, Int.reduceNe, Int.reduceBEq, Int.reduceBNe, Int.reduceToNat, Int.reduceGT, Int.reduceGE, ↓reduceIte, decide_true, decide_false, eq_self, Nat.mul_one, Nat.zero_mul, Nat.one_mul, Int.le_refl, Nat.le_refl, Int.cast_ofNat_Int, hlt2]
          refine hQ2 _ _ ?_
          simp (decide := true) (maxSteps := 4000000) only [go_sem, Nat.reduceAdd, Nat.reduceSub, Nat.reduceMul, Nat.reduceDiv, Nat.reduceMod, Nat.reduceLT, Nat.reduceLeDiff, Nat.reduceEqDiff, Nat.reduceBEq, Nat.reduceBNe, Nat.reduceGT, Int.reduceAdd, Int.reduceSub, Int.reduceMul, Int.reduceNeg, Int.reduceLT, Int.reduceLE, Int.reduceEq, Int.reduceNe, Int.reduceBEq, Int.reduceBNe, Int.reduceToNat, Int.reduceGT, Int.reduceGE, ↓reduceIte, decide_true, decide_false, eq_self, Nat.mul_one, Nat.zero_mul, Nat.one_mul, Int.le_refl, Nat.le_refl, Int.cast_ofNat_Int, aggP, allO, n1, n2, mapR_len2]
          first | done | trace_state
end Go.Proofs.Ytadkjjnnnkfalaa

/- Part QmEv. -/
namespace Go.Pm
open Go Go.RowKit

variable {P : Program}

def getB : List (Nat × PV) → Nat → PV
  | [], _ => .junk
  | (d, v) :: l, t => bif Nat.beq d t then v else getB l t
theorem getB_eq : ∀ (l : List (Nat × PV)) (t : Nat), getB l t = getA l t
  | [], _ => rfl
  | (d, v) :: l, t => by
    unfold getB getA
    rw [getB_eq l t]
    by_cases h : d = t
    · subst h; simp
    · rw [if_neg h]; have : Nat.beq d t = false := by cases hb : Nat.beq d t with
      | true => exact (h (Nat.eq_of_beq_eq_true hb)).elim
      | false => rfl
      rw [this]; rfl
def evalB (s : CS) : Operand → PV
  | .tmp t => getB s.env t
  | .const v => constP v
  | .func f => .t (.fn f [] [])
  | .global g => globP g
theorem evalB_eq (s : CS) : evalB s = s.eval := by
  funext x; cases x <;> first | rfl | exact getB_eq _ _

def dedE : List (Nat × PV) → List Nat → List (Nat × PV)
  | [], _ => []
  | (d, v) :: l, seen => bif seen.any (Nat.beq d) then dedE l seen else (d, v) :: dedE l (d :: seen)
theorem dedE_get : ∀ (l : List (Nat × PV)) (seen : List Nat) (t : Nat), t ∉ seen → getA (dedE l seen) t = getA l t
  | [], _, _, _ => rfl
  | (d, v) :: l, seen, t, h => by
    unfold dedE
    cases hd : seen.any (Nat.beq d) with
    | true =>
      have hm : d ∈ seen := by
        rw [List.any_eq_true] at hd
        obtain ⟨x, h1, h2⟩ := hd
        have : d = x := by simpa using h2
        rw [this]; exact h1
      have hne : d ≠ t := fun e => h (e ▸ hm)
      simp only [cond_true]
      rw [dedE_get l seen t h]
      show _ = if d = t then v else getA l t
      rw [if_neg hne]
    | false =>
      simp only [cond_false]
      show (if d = t then v else getA (dedE l (d :: seen)) t) = if d = t then v else getA l t
      by_cases e : d = t
      · rw [if_pos e, if_pos e]
      · rw [if_neg e, if_neg e]
        exact dedE_get l (d :: seen) t (by simp only [List.mem_cons, not_or]; exact ⟨fun h' => e h'.symm, h⟩)
theorem dedE_keys {n : Nat} : ∀ (l : List (Nat × PV)) (seen : List Nat), keysOk n l = true → keysOk n (dedE l seen) = true
  | [], _, _ => rfl
  | (d, v) :: l, seen, h => by
    simp only [keysOk, List.all_cons, Bool.and_eq_true, decide_eq_true_eq] at h
    unfold dedE
    cases seen.any (Nat.beq d) with
    | true => exact dedE_keys l seen (by simpa [keysOk] using h.2)
    | false =>
      simp only [cond_false, keysOk, List.all_cons, Bool.and_eq_true, decide_eq_true_eq]
      exact ⟨h.1, by have := dedE_keys l (d :: seen) (by simpa [keysOk] using h.2); simpa [keysOk] using this⟩
def comp (s : CS) : CS := { env := dedE s.env [], heap := s.heap }
theorem comp_ps {n : Nat} (s : CS) : toPS n (comp s) = toPS n s := by
  unfold toPS comp
  simp only [PS.mk.injEq, and_true]
  exact List.map_congr_left fun t _ => dedE_get s.env [] t (by simp)

/-- One operation. -/
noncomputable def stepE (P : Program) (sp : Spec) (Y : YS) (n : Nat) (ops : Array Oper) (o : Oper) (s : CS) : Option (CS × Foot) :=
  match guardC ops o s with
  | none => none
  | some b => match yldB b o.op (seenBy o b (evalB s)) with
    | some _ => none
    | none => match valY P sp Y o.op (seenBy o b (evalB s)) s.heap with
      | some (v, W, f) => bif b || W.isEmpty then some (s.put n o.dst (condW o b v) (wrC s.heap W), f) else none
      | none => bif b then none else some (s.put n o.dst (condW o b .junk) s.heap, ([], false))
theorem stepE_C {sp : Spec} {Y : YS} {n : Nat} {ops : Array Oper} {o : Oper} {s s' : CS} {f : Foot} {K : CS → Foot → Prop} (h : stepE P sp Y n ops o s = some (s', f)) (hK : K s' f) : stepC P sp Y n ops o s K := by
  unfold stepE at h
  rw [evalB_eq] at h
  unfold stepC
  split at h
  · cases h
  · rename_i b hb
    split at h
    · cases h
    · rename_i hy
      split at h
      · rename_i v W f' hv
        cases hbw : (b || W.isEmpty) with
        | false => rw [hbw] at h; cases h
        | true =>
          rw [hbw] at h
          simp only [cond_true, Option.some.injEq, Prod.mk.injEq] at h
          obtain ⟨rfl, rfl⟩ := h
          rw [hb]; simp only [hy, hv]
          refine ⟨fun e => ?_, hK⟩
          subst e
          simpa using hbw
      · rename_i hv
        cases b with
        | true => cases h
        | false =>
          simp only [cond_false, Option.some.injEq, Prod.mk.injEq] at h
          obtain ⟨rfl, rfl⟩ := h
          rw [hb]; simp only [hy, hv]
          exact ⟨trivial, hK⟩
noncomputable def popsE (P : Program) (sp : Spec) (Y : YS) (n : Nat) (ops : Array Oper) : List Oper → CS → List Foot → Option (CS × List Foot)
  | [], s, fs => some (s, fs)
  | o :: l, s, fs => match stepE P sp Y n ops o s with
    | some (s', f) => popsE P sp Y n ops l s' (fs ++ [f])
    | none => none
theorem popsE_C {sp : Spec} {Y : YS} {n : Nat} {ops : Array Oper} {K : CS → List Foot → Prop} : ∀ (l : List Oper) (s : CS) (fs : List Foot) (s' : CS) (fs' : List Foot), popsE P sp Y n ops l s fs = some (s', fs') → K s' fs' → popsC P sp Y n ops l s fs K
  | [], s, fs, s', fs', h, hK => by unfold popsE at h; cases h; exact hK
  | o :: l, s, fs, s', fs', h, hK => by
    unfold popsE at h
    split at h
    · rename_i s1 f h1
      exact stepE_C h1 (popsE_C l s1 _ s' fs' h hK)
    · cases h

theorem stepE_key {sp : Spec} {Y : YS} {n : Nat} {ops : Array Oper} {o : Oper} {s s' : CS} {f : Foot} (hk : keysOk n s.env = true) (h : stepE P sp Y n ops o s = some (s', f)) : keysOk n s'.env = true := by
  unfold stepE at h
  split at h
  · cases h
  · rename_i b _
    split at h
    · cases h
    · split at h
      · rename_i v W f' _
        cases hbw : (b || W.isEmpty) <;> rw [hbw] at h
        · cases h
        · simp only [cond_true, Option.some.injEq, Prod.mk.injEq] at h
          obtain ⟨rfl, _⟩ := h
          exact keys_put hk _ _ _
      · cases b
        · simp only [cond_false, Option.some.injEq, Prod.mk.injEq] at h
          obtain ⟨rfl, _⟩ := h
          exact keys_put hk _ _ _
        · cases h
theorem popsE_key {sp : Spec} {Y : YS} {n : Nat} {ops : Array Oper} : ∀ (l : List Oper) (s : CS) (fs : List Foot) (s' : CS) (fs' : List Foot), keysOk n s.env = true → popsE P sp Y n ops l s fs = some (s', fs') → keysOk n s'.env = true
  | [], s, fs, s', fs', hk, h => by unfold popsE at h; cases h; exact hk
  | o :: l, s, fs, s', fs', hk, h => by
    unfold popsE at h
    split at h
    · rename_i s1 f h1
      exact popsE_key l s1 _ s' fs' (stepE_key hk h1) h
    · cases h

noncomputable def loopE (g : CS → Option (Exit × CS)) : Nat → CS → Option (Exit × CS)
  | 0, _ => none
  | k + 1, s => match g s with
    | some (.normal, s') => loopE g k (comp s')
    | r => r
noncomputable def ev (P : Program) (sp : Spec) (N n : Nat) : Code → CS → Option (Exit × CS)
  | .skip, s => some (.normal, s)
  | .label _, s => some (.normal, s)
  | .region _ ops draw, s => match popsE P sp noY n ops ops.toList s [] with
    | some (s', fs) => bif !draw || drawOk ops fs then some (.normal, s') else none
    | none => none
  | .seq a b, s => match ev P sp N n a s with
    | some (.normal, s') => ev P sp N n b s'
    | r => r
  | .cond c a b, s => match evalB s c with
    | .t (.bool true) => ev P sp N n a s
    | .t (.bool false) => ev P sp N n b s
    | _ => none
  | .block id c, s => match ev P sp N n c s with
    | some (.exit i, s') => bif Nat.beq i id then some (.normal, s') else some (.exit i, s')
    | r => r
  | .scope c, s => match ev P sp N n c s with
    | some (.goto _, _) => none
    | r => r
  | .loop c, s => loopE (ev P sp N n c) N s
  | .exit id, s => some (.exit id, s)
  | .ret, s => some (.ret, s)
  | _, _ => none

theorem loopE_ok {n : Nat} {X : PX} {c : Code} {g : CS → Option (Exit × CS)} (hg : ∀ s e s', keysOk n s.env = true → g s = some (e, s') → keysOk n s'.env = true ∧ ∀ Q : Exit → PS → Prop, Q e (toPS n s') → pwp P X c Q (toPS n s)) :
    ∀ (k : Nat) (s : CS) (e : Exit) (s' : CS), keysOk n s.env = true → loopE g k s = some (e, s') → keysOk n s'.env = true ∧ ∀ Q : Exit → PS → Prop, Q e (toPS n s') → pwp P X (.loop c) Q (toPS n s)
  | 0, s, e, s', hk, h => by unfold loopE at h; cases h
  | k + 1, s, e, s', hk, h => by
    unfold loopE at h
    split at h
    · rename_i s1 h1
      obtain ⟨k1, q1⟩ := hg s _ s1 hk h1
      obtain ⟨k2, q2⟩ := loopE_ok hg k (comp s1) e s' (dedE_keys _ _ k1) h
      refine ⟨k2, fun Q hQ => ?_⟩
      obtain ⟨A, S, μ, x0, hw, hb⟩ := q2 Q hQ
      rw [comp_ps] at hw
      refine ⟨Option A, fun x => match x with | none => toPS n s | some x => S x, fun x => match x with | none => μ x0 + 1 | some x => μ x, none, Weak.refl _ _, fun x => ?_⟩
      cases x with
      | none => exact q1 _ ⟨some x0, hw, Nat.lt_succ_self _⟩
      | some x => exact pwp_mono c (fun e σ hs => by
          cases e with
          | normal => obtain ⟨x', h1, h2⟩ := hs; exact ⟨some x', h1, h2⟩
          | _ => exact hs) _ (hb x)
    · rename_i hne
      obtain ⟨k1, q1⟩ := hg s e s' hk h
      refine ⟨k1, fun Q hQ => ?_⟩
      refine ⟨Unit, fun _ => toPS n s, fun _ => 0, (), Weak.refl _ _, fun _ => q1 _ ?_⟩
      cases e with
      | normal => exact (hne s' h).elim
      | _ => exact hQ
theorem ev_ok {sp : Spec} (hsp : SpecOk P sp) {N n k : Nat} {b0 : Bool} : ∀ (c : Code) (s : CS) (e : Exit) (s' : CS), keysOk n s.env = true → ev P sp N n c s = some (e, s') → keysOk n s'.env = true ∧ ∀ Q : Exit → PS → Prop, Q e (toPS n s') → pwp P ⟨noY, k, b0⟩ c Q (toPS n s)
  | .skip, s, e, s', hk, h => by unfold ev at h; cases h; exact ⟨hk, fun Q h => h⟩
  | .label _, s, e, s', hk, h => by unfold ev at h; cases h; exact ⟨hk, fun Q h => h⟩
  | .region _ ops draw, s, e, s', hk, h => by
    unfold ev at h
    split at h
    · rename_i s1 fs h1
      cases hd : (!draw || drawOk ops fs) with
      | false => rw [hd] at h; cases h
      | true =>
        rw [hd] at h; cases h
        have hd' : draw = true → drawOk ops fs = true := fun e => by subst e; simpa using hd
        have hp := fun (Q : Exit → PS → Prop) (hQ : Q .normal (toPS n s')) => popsC_pops (P := P) hsp (n := n) (ops := ops) ops.toList 0 s [] hk (by simp) (popsE_C (K := fun s2 fs2 => s2 = s' ∧ fs2 = fs) _ _ _ _ _ h1 ⟨rfl, rfl⟩)
        have hkey : keysOk n s'.env = true := popsE_key ops.toList s [] s' fs hk h1
        refine ⟨hkey, fun Q hQ => ?_⟩
        show pregion P noY ops draw (Q .normal) (toPS n s)
        unfold pregion
        rw [List.range_eq_range']
        refine pops_mono _ (fun σ fs' hs => ?_) (by simpa using hp Q hQ)
        obtain ⟨s2, rfl, _, rfl, rfl⟩ := hs
        exact ⟨hd', hQ⟩
    · cases h
  | .seq a b, s, e, s', hk, h => by
    unfold ev at h
    split at h
    · rename_i s1 h1
      obtain ⟨k1, q1⟩ := ev_ok hsp a s _ s1 hk h1
      obtain ⟨k2, q2⟩ := ev_ok hsp b s1 e s' k1 h
      exact ⟨k2, fun Q hQ => q1 _ (q2 Q hQ)⟩
    · rename_i hne
      obtain ⟨k1, q1⟩ := ev_ok hsp a s e s' hk h
      refine ⟨k1, fun Q hQ => q1 _ ?_⟩
      cases e with
      | normal => exact (hne s' h).elim
      | _ => exact hQ
  | .cond c a b, s, e, s', hk, h => by
    unfold ev at h
    rw [evalB_eq] at h
    split at h
    · rename_i hc
      obtain ⟨k1, q1⟩ := ev_ok hsp a s e s' hk h
      exact ⟨k1, fun Q hQ => ⟨true, by rw [toPS_eval hk]; exact hc, fun _ => q1 Q hQ, fun e => by cases e⟩⟩
    · rename_i hc
      obtain ⟨k1, q1⟩ := ev_ok hsp b s e s' hk h
      exact ⟨k1, fun Q hQ => ⟨false, by rw [toPS_eval hk]; exact hc, fun e => (by cases e), fun _ => q1 Q hQ⟩⟩
    · cases h
  | .block id c, s, e, s', hk, h => by
    unfold ev at h
    split at h
    · rename_i i s1 h1
      obtain ⟨k1, q1⟩ := ev_ok hsp c s _ s1 hk h1
      cases hb : Nat.beq i id with
      | true =>
        rw [hb] at h; cases h
        have : i = id := Nat.eq_of_beq_eq_true hb
        exact ⟨k1, fun Q hQ => q1 _ (by show (if i = id then _ else _); rw [if_pos this]; exact hQ)⟩
      | false =>
        rw [hb] at h; cases h
        have : ¬ i = id := fun e => by rw [e] at hb; simp at hb
        exact ⟨k1, fun Q hQ => q1 _ (by show (if i = id then _ else _); rw [if_neg this]; exact hQ)⟩
    · rename_i hne
      obtain ⟨k1, q1⟩ := ev_ok hsp c s e s' hk h
      refine ⟨k1, fun Q hQ => q1 _ ?_⟩
      cases e with
      | exit i => exact (hne i s' h).elim
      | _ => exact hQ
  | .scope c, s, e, s', hk, h => by
    unfold ev at h
    split at h
    · cases h
    · rename_i hne
      obtain ⟨k1, q1⟩ := ev_ok hsp c s e s' hk h
      refine ⟨k1, fun Q hQ => q1 _ ?_⟩
      cases e with
      | goto i => exact (hne i s' h).elim
      | _ => exact hQ
  | .loop c, s, e, s', hk, h => by
    unfold ev at h
    exact loopE_ok (fun s e s' hk h => ev_ok hsp c s e s' hk h) N s e s' hk h
  | .exit id, s, e, s', hk, h => by unfold ev at h; cases h; exact ⟨hk, fun Q h => h⟩
  | .ret, s, e, s', hk, h => by unfold ev at h; cases h; exact ⟨hk, fun Q h => h⟩
  | .rangeFunc .., s, e, s', hk, h => by unfold ev at h; cases h
  | .goto .., s, e, s', hk, h => by unfold ev at h; cases h
  | .refuse .., s, e, s', hk, h => by unfold ev at h; cases h

def endE : Exit → Bool
  | .normal | .ret => true
  | _ => false
/-- A function of trees, reckoned to its end. -/
noncomputable def evP (P : Program) (sp : Spec) (N : Nat) (f : FuncId) (al : List TV) : Option TV :=
  match P.funcs[f]? with
  | some fn => match fn.body with
    | some c => bif !(fn.name == "runtime.NumGoroutine") && Nat.ble al.length fn.ntmps then
        match ev P sp N fn.ntmps c { env := argsE (al.map .t) 0, heap := [] } with
        | some (e, s) => bif endE e && Nat.beq (cntL s.heap) 0 && Nat.beq (cntL (frzC P fn.results.toList s).heap) 0 then
            match resC P fn.results.toList (frzC P fn.results.toList s) with
            | some (.t r) => some r
            | _ => none
          else none
        | none => none
      else none
    | none => none
  | none => none
/-- A function that knows objects. -/
noncomputable def evH (P : Program) (sp : Spec) (N : Nat) (f : FuncId) (al : List PV) (hl : List PO) : Option (PV × List PO) :=
  match P.funcs[f]? with
  | some fn => match fn.body with
    | some c => bif !(fn.name == "runtime.NumGoroutine") && Nat.ble al.length fn.ntmps then
        match ev P sp N fn.ntmps c { env := argsE al 0, heap := hl } with
        | some (e, s) => bif endE e && Nat.ble hl.length s.heap.length && s.heap.all (PO.under s.heap.length) then
            match resC P fn.results.toList s with
            | some v => bif v.under s.heap.length then some (v, s.heap) else none
            | none => none
          else none
        | none => none
      else none
    | none => none
  | none => none

theorem pcalls_pwp (hm : P.follows .mixedOrders = true) {f : FuncId} {fn : Func} {c : Code} {args : List TV} {r : TV} (hf : P.funcs[f]? = some fn) (hb : fn.body = some c) (hname : (fn.name == "runtime.NumGoroutine") = false)
    (hn : args.length ≤ fn.ntmps) (hw : pwp P ⟨noY, 0, false⟩ c (liftC fn.ntmps (bodyC P fn.results.toList r)) (toPS fn.ntmps { env := argsE (args.map .t) 0, heap := [] })) : PCalls P f args r := by
  have h0 : noH = getL [] := by funext i; simp [noH, getL]
  refine hcalls_of (k := 0) hm hf hb hname (fun _ _ => rfl) (by rw [h0]; exact start_weak (by simpa using hn)) (pwp_mono c (fun e σ hs => ?_) _ hw)
  obtain ⟨s', rfl, hk', hq⟩ := hs
  have fin : resC P fn.results.toList (frzC P fn.results.toList s') = some (.t r) ∧ cntL s'.heap = 0 ∧ cntL (frzC P fn.results.toList s').heap = 0 → ∃ s1, Weak P 0 (toPS fn.ntmps s') s1 ∧ ∃ p, resO P fn.results.toList s1 = some p ∧ Weak P 0 ⟨[p], s1.heap⟩ ⟨[.t r], noH⟩ := fun hq => by
    refine ⟨_, frzC_weak (rs := fn.results.toList) (by rw [hq.2.1, hq.2.2]), .t r, (resC_eq (frzC_keys hk')).trans hq.1, weak_of (m := 0) (Nat.le_refl _) rfl (fun i p p' hp hp' => ?_) (fun id hid => by omega) (fun _ _ => rfl) ?_⟩
    · rw [hp] at hp'; cases hp'
      cases i with
      | zero => simp at hp; subst hp; exact ⟨.inr (.inl rfl), rfl⟩
      | succ i => simp at hp
    · show cntOf noH = cntOf (getL (frzC P fn.results.toList s').heap)
      rw [cntL_eq, hq.2.2]; rfl
  cases e with
  | normal => exact fin hq
  | ret => exact fin hq
  | _ => exact hq.elim
theorem hcalls_pwp (hm : P.follows .mixedOrders = true) {f : FuncId} {fn : Func} {c : Code} {al : List PV} {hl hl' : List PO} {v : PV} (hf : P.funcs[f]? = some fn) (hb : fn.body = some c) (hname : (fn.name == "runtime.NumGoroutine") = false)
    (hn : al.length ≤ fn.ntmps) (hw : pwp P ⟨noY, hl.length, false⟩ c (liftC fn.ntmps (bodyH P hl.length fn.results.toList v hl')) (toPS fn.ntmps { env := argsE al 0, heap := hl })) : HCalls P f al (getL hl) v (getL hl') := by
  refine hcalls_of (k := hl.length) hm hf hb hname (fun id hid => getL_out hid) (start_weak hn) (pwp_mono c (fun e σ hs => ?_) _ hw)
  obtain ⟨s', rfl, hk', hq⟩ := hs
  have fin : (∃ p, resC P fn.results.toList s' = some p ∧ cellW hl' p v ∧ v.under hl'.length = true ∧ heapW hl' s'.heap hl' ∧ hl'.all (PO.under hl'.length) = true ∧ hl.length ≤ hl'.length ∧ cntL hl' = cntL s'.heap) →
      ∃ s1, Weak P hl.length (toPS fn.ntmps s') s1 ∧ ∃ p, resO P fn.results.toList s1 = some p ∧ Weak P hl.length ⟨[p], s1.heap⟩ ⟨[v], getL hl'⟩ := by
    rintro ⟨p, h1, h2, h3, h4, h5, h6, h7⟩
    refine ⟨_, Weak.refl _ _, p, (resC_eq hk').trans h1, weak_of (m := hl'.length) h6 rfl (fun i q q' hq hq' => ?_) (fun id hid => ⟨heapW_le h4 id hid, ?_⟩) (fun id hid => getL_out hid) (by show cntOf (getL hl') = cntOf (getL s'.heap); rw [cntL_eq, cntL_eq, h7])⟩
    · cases i with
      | zero => simp at hq hq'; subst hq; subst hq'; exact ⟨cellW_le h2, h3⟩
      | succ i => simp at hq
    · rw [List.all_eq_true] at h5
      refine h5 _ ?_
      show hl'.getD id .res ∈ hl'
      rw [List.getD_eq_getElem?_getD, List.getElem?_eq_getElem hid]; exact List.getElem_mem hid
  cases e with
  | normal => exact fin hq
  | ret => exact fin hq
  | _ => exact hq.elim
theorem cellW_refl (l : List PO) (p : PV) : cellW l p p := by
  cases p <;> simp [cellW, PV.toT]
theorem cellsW_refl (l : List PO) : ∀ cs : List PV, cellsW l cs cs
  | [] => trivial
  | c :: cs => ⟨cellW_refl l c, cellsW_refl l cs⟩
theorem objW_refl (l : List PO) (o : PO) : objW l o o := by
  cases o <;> simp [objW, cellsW_refl]
theorem heapW_refl (hp : List PO) : ∀ l : List PO, heapW hp l l
  | [] => by unfold heapW; trivial
  | o :: l => ⟨objW_refl hp o, heapW_refl hp l⟩

theorem evP_ok (hm : P.follows .mixedOrders = true) {sp : Spec} (hsp : SpecOk P sp) {N : Nat} {f : FuncId} {al : List TV} {r : TV} (h : evP P sp N f al = some r) : PCalls P f al r := by
  unfold evP at h
  split at h
  · rename_i fn hf
    split at h
    · rename_i c hc
      cases h1 : (!(fn.name == "runtime.NumGoroutine") && Nat.ble al.length fn.ntmps) with
      | false => rw [h1] at h; cases h
      | true =>
        rw [h1] at h; simp only [cond_true] at h
        simp only [Bool.and_eq_true, Bool.not_eq_true'] at h1
        have hn : al.length ≤ fn.ntmps := Nat.le_of_ble_eq_true h1.2
        split at h
        · rename_i e s he
          cases h2 : (endE e && Nat.beq (cntL s.heap) 0 && Nat.beq (cntL (frzC P fn.results.toList s).heap) 0) with
          | false => rw [h2] at h; cases h
          | true =>
            rw [h2] at h; simp only [cond_true] at h
            simp only [Bool.and_eq_true] at h2
            obtain ⟨⟨h3, h4⟩, h5⟩ := h2
            have h4 : cntL s.heap = 0 := by simpa using h4
            have h5 : cntL (frzC P fn.results.toList s).heap = 0 := by simpa using h5
            split at h
            · rename_i r' hr
              cases h
              obtain ⟨k1, q1⟩ := ev_ok (k := 0) (b0 := false) hsp c _ e s (argsE_keys _ 0 _ (by simpa using hn)) he
              refine pcalls_pwp hm hf hc h1.1 hn (q1 _ ⟨s, rfl, k1, ?_⟩)
              cases e with
              | normal => exact ⟨hr, h4, h5⟩
              | ret => exact ⟨hr, h4, h5⟩
              | _ => cases h3
            · cases h
        · cases h
    · cases h
  · cases h
theorem evH_ok (hm : P.follows .mixedOrders = true) {sp : Spec} (hsp : SpecOk P sp) {N : Nat} {f : FuncId} {al : List PV} {hl hl' : List PO} {v : PV} (h : evH P sp N f al hl = some (v, hl')) : HCalls P f al (getL hl) v (getL hl') := by
  unfold evH at h
  split at h
  · rename_i fn hf
    split at h
    · rename_i c hc
      cases h1 : (!(fn.name == "runtime.NumGoroutine") && Nat.ble al.length fn.ntmps) with
      | false => rw [h1] at h; cases h
      | true =>
        rw [h1] at h; simp only [cond_true] at h
        simp only [Bool.and_eq_true, Bool.not_eq_true'] at h1
        have hn : al.length ≤ fn.ntmps := Nat.le_of_ble_eq_true h1.2
        split at h
        · rename_i e s he
          cases h2 : (endE e && Nat.ble hl.length s.heap.length && s.heap.all (PO.under s.heap.length)) with
          | false => rw [h2] at h; cases h
          | true =>
            rw [h2] at h; simp only [cond_true] at h
            simp only [Bool.and_eq_true] at h2
            obtain ⟨⟨h3, h4⟩, h5⟩ := h2
            split at h
            · rename_i v' hr
              cases h6 : v'.under s.heap.length with
              | false => rw [h6] at h; cases h
              | true =>
                rw [h6] at h; cases h
                obtain ⟨k1, q1⟩ := ev_ok (k := hl.length) (b0 := false) hsp c _ e s (argsE_keys _ 0 _ (by omega)) he
                refine hcalls_pwp hm hf hc h1.1 hn (q1 _ ⟨s, rfl, k1, ?_⟩)
                have fin : ∃ p, resC P fn.results.toList s = some p ∧ cellW s.heap p v ∧ v.under s.heap.length = true ∧ heapW s.heap s.heap s.heap ∧ s.heap.all (PO.under s.heap.length) = true ∧ hl.length ≤ s.heap.length ∧ cntL s.heap = cntL s.heap :=
                  ⟨v, hr, cellW_refl _ _, h6, heapW_refl _ _, h5, Nat.le_of_ble_eq_true h4, rfl⟩
                cases e with
                | normal => exact fin
                | ret => exact fin
                | _ => cases h3
            · cases h
        · cases h
    · cases h
  · cases h

/-- What calls do, k calls deep. -/
noncomputable def evS (P : Program) (base : Spec) (N : Nat) : Nat → Spec
  | 0 => base
  | k + 1 => { base with
      p := fun f al => match base.p f al with | some r => some r | none => evP P (evS P base N k) N f al
      h := fun f al hl => match base.h f al hl with | some r => some r | none => evH P (evS P base N k) N f al hl }
theorem evS_ok (hm : P.follows .mixedOrders = true) {base : Spec} (hb : SpecOk P base) {N : Nat} : ∀ k, SpecOk P (evS P base N k)
  | 0 => hb
  | k + 1 => ⟨fun f al r h => by
      simp only [evS] at h
      split at h
      · rename_i r' h'; cases h; exact hb.1 _ _ _ h'
      · exact evP_ok hm (evS_ok hm hb k) h, fun f al hl v hl' h => by
      simp only [evS] at h
      split at h
      · rename_i r' h'; cases h; exact hb.2.1 _ _ _ _ _ h'
      · exact evH_ok hm (evS_ok hm hb k) h, fun Y f al hl v hl' h => by
      simp only [evS] at h; exact hb.2.2 _ _ _ _ _ _ h⟩

end Go.Pm

/- Part Kt. -/
namespace Go.Proofs.Ytadkjjnnnkfalaa
open Go.RowKit Go.Pm Go.Oc Go.Oh Go.Os Go.Ok
set_option maxRecDepth 100000
set_option linter.unusedVariables false
set_option maxHeartbeats 8000000

theorem kRepeat_e : evP Try.prog (evS Try.prog noSpec 60 5) 60 65 [.agg [.int .i64 100, .int .i64 500, .int .i64 4, .int .i64 80, .int .i64 120, .int .i64 2]] = some (.tup [.sl [.int .i64 99, .int .i64 101] 1 true, .int .i64 0]) := by kernel_rfl
theorem kRepeat_c : PCalls Try.prog 65 [.agg [.int .i64 100, .int .i64 500, .int .i64 4, .int .i64 80, .int .i64 120, .int .i64 2]] (.tup [.sl [.int .i64 99, .int .i64 101] 1 true, .int .i64 0]) := evP_ok Try.mixes (evS_ok Try.mixes noSpec_ok 5) kRepeat_e
def boxC : Ck := ⟨[10, 20], [⟨5, 6⟩, ⟨5, 6⟩], ⟨0, 0⟩, ⟨0, 0⟩⟩
theorem kSpan_c (a b : Int) : PCalls Try.prog 37 [.int .i64 a, .int .i64 b] (.agg [.int .i64 a, .int .i64 b]) := by
  refine pcalls_by Try.mixes noSpec_ok (fn := Try.f37) Try.func37 rfl (by kernel_rfl) (by show 2 ≤ _; decide) ?_
  simp (decide := true) (maxSteps := 4000000) only [go_sem, Nat.reduceAdd, Nat.reduceSub, Nat.reduceMul, Nat.reduceDiv, Nat.reduceMod, Nat.reduceLT, Nat.reduceLeDiff, Nat.reduceEqDiff, Nat.reduceBEq, Nat.reduceBNe, Nat.reduceGT, Int.reduceAdd, Int.reduceSub, Int.reduceMul, Int.reduceNeg, Int.reduceLT, Int.reduceLE, Int.reduceEq, Int.reduceNe, Int.reduceBEq, Int.reduceBNe, Int.reduceToNat, Int.reduceGT, Int.reduceGE, ↓reduceIte, decide_true, decide_false, eq_self, Nat.mul_one, Nat.zero_mul, Nat.one_mul, Int.le_refl, Nat.le_refl, Int.cast_ofNat_Int, Try.f37]
noncomputable def kSpan : List TV → Option TV
  | [.int .i64 a, .int .i64 b] => some (.agg [.int .i64 a, .int .i64 b])
  | _ => none
theorem kSpan_ok : ∀ xs r, kSpan xs = some r → PCalls Try.prog 37 xs r := by
  intro xs r h
  unfold kSpan at h
  split at h
  · cases h; exact kSpan_c _ _
  · cases h
attribute [go_sem] kSpan
theorem boxC_to : (coneTo boxC [⟨10, 12⟩] [(⟨10, 12⟩ : Span)].length).flatMap Span.cs = [.int .i64 5, .int .i64 6] := by rfl
theorem kBox07_c : PCalls Try.prog 21 [] (.bool true) := by
  have h1 := kCone_c boxC (d := [⟨10, 12⟩]) true true true (by decide) (by decide)
  rw [boxC_to] at h1
  have u1 : unS [.int .i64 5, .int .i64 6] = some [⟨5, 6⟩] := unS_eq [⟨5, 6⟩]
  have u2 : unS [.int .i64 99, .int .i64 101] = some [⟨99, 101⟩] := unS_eq [⟨99, 101⟩]
  refine pcalls_by Try.mixes (Spec.one_ok kSpan_ok (Spec.one_ok (shotP_ok h1) (Spec.one_ok (shotP_ok kRepeat_c) Sx.spH_ok))) (fn := Try.f21) Try.func21 rfl (by kernel_rfl) (by show 0 ≤ _; decide) ?_
  simp (decide := true) (maxSteps := 4000000) only [go_sem, Nat.reduceAdd, Nat.reduceSub, Nat.reduceMul, Nat.reduceDiv, Nat.reduceMod, Nat.reduceLT, Nat.reduceLeDiff, Nat.reduceEqDiff, Nat.reduceBEq, Nat.reduceBNe, Nat.reduceGT, Int.reduceAdd, Int.reduceSub, Int.reduceMul, Int.reduceNeg, Int.reduceLT, Int.reduceLE, Int.reduceEq, Int.reduceNe, Int.reduceBEq, Int.reduceBNe, Int.reduceToNat, Int.reduceGT, Int.reduceGE, ↓reduceIte, decide_true, decide_false, eq_self, Nat.mul_one, Nat.zero_mul, Nat.one_mul, Int.le_refl, Nat.le_refl, Int.cast_ofNat_Int, Try.f21, boxC, Ck.t, Ck.cs, ints, List.map_cons, List.map_nil, List.flatMap_cons, List.flatMap_nil, Span.cs, u1, u2]
  first | done | trace_state
noncomputable def kBox07 : List TV → Option TV
  | [] => some (.bool true)
  | _ => none
theorem kBox07_ok : ∀ xs r, kBox07 xs = some r → PCalls Try.prog 21 xs r := by
  intro xs r h
  unfold kBox07 at h
  split at h
  · cases h; exact kBox07_c
  · cases h
attribute [go_sem] kBox07
end Go.Proofs.Ytadkjjnnnkfalaa

/- Part Ku. -/
namespace Go.Pm
open Go Go.RowKit
open Classical in
/-- Contracts for some calls of trees alone. -/
noncomputable def shotsP : List (List TV × TV) → List TV → Option TV
  | [], _ => none
  | p :: l, a => if a = p.1 then some p.2 else shotsP l a
theorem shotsP_ok {P : Program} {f : FuncId} : ∀ {l : List (List TV × TV)}, (∀ p ∈ l, PCalls P f p.1 p.2) → ∀ a r, shotsP l a = some r → PCalls P f a r
  | [], _, a, r, e => by unfold shotsP at e; cases e
  | p :: l, h, a, r, e => by
    unfold shotsP at e
    split at e
    · rename_i hc; subst hc; cases e; exact h p List.mem_cons_self
    · exact shotsP_ok (fun q hq => h q (List.mem_cons_of_mem _ hq)) a r e
theorem shots2_ok {P : Program} {f : FuncId} {a0 a1 : List TV} {r0 r1 : TV} (h0 : PCalls P f a0 r0) (h1 : PCalls P f a1 r1) : ∀ a r, shotsP [(a0, r0), (a1, r1)] a = some r → PCalls P f a r := shotsP_ok fun p hp => by
  simp only [List.mem_cons, List.not_mem_nil, or_false] at hp
  rcases hp with rfl | rfl
  · exact h0
  · exact h1
@[go_sem] theorem shotsP_nil (a : List TV) : shotsP [] a = none := by unfold shotsP; rfl
open Classical in
@[go_sem] theorem shotsP_cons (a0 : List TV) (r0 : TV) (l : List (List TV × TV)) (a : List TV) : shotsP ((a0, r0) :: l) a = if a = a0 then some r0 else shotsP l a := by rw [shotsP]
end Go.Pm
namespace Go.Ok
open Go Go.RowKit Go.Pm Go.Oc Go.Oh Go.Os
/-- Between what a day's rate lies. -/
def dayD (c : Ck) (d : List Span) (k : Nat) : Span := ⟨(coneAt c d (k + 1)).lo - (coneAt c d k).lo, (coneAt c d (k + 1)).hi - (coneAt c d k).hi⟩
def rAt (c : Ck) (d : List Span) : Nat → Span
  | 0 => ⟨0, 0⟩
  | k + 1 => if k = 0 then ⟨0, 0⟩ else widerS (widerS (rAt c d k) (dayD c d k).lo (decide (k = 1))) (dayD c d k).hi false
theorem rAt_mem (c : Ck) (d : List Span) : ∀ m k : Nat, 1 ≤ k → k < m → ((rAt c d m).lo ≤ (dayD c d k).lo ∧ (dayD c d k).lo ≤ (rAt c d m).hi) ∧ (rAt c d m).lo ≤ (dayD c d k).hi ∧ (dayD c d k).hi ≤ (rAt c d m).hi
  | 0, k, h1, h2 => by omega
  | m + 1, k, h1, h2 => by
    have ih := rAt_mem c d m k h1
    unfold rAt
    rw [if_neg (by omega)]
    by_cases hk : k = m
    · subst hk
      unfold widerS
      by_cases h3 : k = 1
      · simp only [h3, decide_true, if_true, Bool.false_eq_true, if_false]; omega
      · simp only [h3, decide_false, Bool.false_eq_true, if_false]; omega
    · have ih := ih (by omega)
      unfold widerS
      have h3 : ¬ m = 1 := by omega
      simp only [h3, decide_false, Bool.false_eq_true, if_false]; omega
def rB (B : Int) (s : Span) : Prop := -B ≤ s.lo ∧ s.lo ≤ B ∧ -B ≤ s.hi ∧ s.hi ≤ B
theorem widerS_b {B : Int} {s : Span} {n : Int} {f : Bool} (h : rB B s) (h1 : -B ≤ n) (h2 : n ≤ B) : rB B (widerS s n f) := by
  unfold rB at *; unfold widerS; cases f <;> simp <;> omega
theorem dayD_b {c : Ck} {d : List Span} (h : GoodK c) (hd : daysOk c d = true) {k : Nat} (hk : k < d.length) : rB 40000000 (dayD c d k) := by
  have hd' := daysOk_iff hd
  have a := coneAt_b h hd k (by omega)
  have b := coneAt_b h hd (k + 1) (by omega)
  unfold rB dayD; simp only; omega
theorem rAt_b {c : Ck} {d : List Span} (h : GoodK c) (hd : daysOk c d = true) : ∀ k : Nat, k ≤ d.length → rB 40000000 (rAt c d k)
  | 0, _ => by unfold rB rAt; simp
  | k + 1, hk => by
    unfold rAt
    split
    · unfold rB; simp
    · have a := dayD_b h hd (k := k) (by omega)
      have b := rAt_b h hd k (by omega)
      exact widerS_b (widerS_b b a.1 a.2.1) a.2.2.1 a.2.2.2
/-- The error of a clock behind a day. -/
def eA (c : Ck) (d : List Span) (b : List Int) (k i : Nat) : Int := errAt c (truC c d b (5 * (k : Int))) (i + 1)
theorem eA_b {c : Ck} {d : List Span} (h : GoodK c) (hd : daysOk c d = true) (b : List Int) (k : Nat) {i : Nat} (hi : i < d.length) : -20000000 ≤ eA c d b k i ∧ eA c d b k i ≤ 20000000 := by
  have hd' := daysOk_iff hd
  have := errAt_b h hd (truC_good h hd b (5 * (k : Int))) (i + 1) (by omega)
  unfold eA; omega
theorem eA_rate {c : Ck} {d : List Span} (h : GoodK c) (hd : daysOk c d = true) (b : List Int) (k : Nat) {n i : Nat} (hn : n ≤ d.length) (h0 : 0 < i) (hi : i < n) : (rAt c d n).lo ≤ eA c d b k i - eA c d b k (i - 1) ∧ eA c d b k i - eA c d b k (i - 1) ≤ (rAt c d n).hi := by
  have a := err_cone h hd (truC_good h hd b (5 * (k : Int))) (k := i) (by omega)
  have m := rAt_mem c d n i (by omega) hi
  unfold dayD at m
  simp only at m
  unfold eA
  rw [show i - 1 + 1 = i by omega]
  omega
def fBox (c : Ck) (d : List Span) (b : List Int) (wr : Int) (x y o : Nat) (i : Nat) : Int := eA c d b x i - eA c d b y i + chosen (-wr) wr (pickI b ((i : Int) + o))
def gBox (c : Ck) (d : List Span) (b : List Int) (wr : Int) (who on : Nat) (J : Int) (x y o : Nat) (i : Nat) : Int := fBox c d b wr x y o i + (jmp who on J x i - jmp who on J y i)
def wBox (c : Ck) (d : List Span) (b : List Int) (wr : Int) (n who on : Nat) (J : Int) : Wa := ⟨(List.range n).map (gBox c d b wr who on J 0 1 0), (List.range n).map (gBox c d b wr who on J 1 2 1), wr, rAt c d n, rAt c d n, rAt c d n⟩
theorem fBox_b {c : Ck} {d : List Span} (h : GoodK c) (hd : daysOk c d = true) (b : List Int) {wr : Int} (hw : 0 ≤ wr ∧ wr ≤ 1000) (x y o : Nat) {i : Nat} (hi : i < d.length) : -50000000 ≤ fBox c d b wr x y o i ∧ fBox c d b wr x y o i ≤ 50000000 := by
  have e1 := eA_b h hd b x hi
  have e2 := eA_b h hd b y hi
  have e3 := chosen_mem (pickI b ((i : Int) + o)) (show -wr ≤ wr by omega)
  unfold fBox; omega
theorem jmp_b (who on : Nat) {J : Int} (hJ : 0 ≤ J ∧ J ≤ 1000000) (c d : Nat) : 0 ≤ jmp who on J c d ∧ jmp who on J c d ≤ 1000000 := by unfold jmp; split <;> omega
theorem wBox_good {c : Ck} {d : List Span} (h : GoodK c) (hd : daysOk c d = true) (b : List Int) {wr : Int} (hw : 0 ≤ wr ∧ wr ≤ 1000) {n : Nat} (hn2 : 2 ≤ n) (hn20 : n ≤ 20) (hn : n ≤ d.length) (hr : -100000 ≤ (rAt c d n).lo ∧ (rAt c d n).hi ≤ 100000) (who on : Nat) {J : Int} (hJ : 0 ≤ J ∧ J ≤ 1000000) : GoodW (wBox c d b wr n who on J) n := by
  have m := rAt_mem c d n 1 (by omega) (by omega)
  have hs : spannedB (rAt c d n) (-100000) 100000 = true := spannedB_iff.2 (by omega)
  have g : ∀ x y o k, k < n → -1000000000 ≤ gBox c d b wr who on J x y o k ∧ gBox c d b wr who on J x y o k ≤ 1000000000 := fun x y o k hk => by
    have a := fBox_b h hd b hw x y o (i := k) (by omega)
    have q1 := jmp_b who on hJ x k
    have q2 := jmp_b who on hJ y k
    unfold gBox; omega
  exact ⟨hn2, hn20, by simp [wBox], by simp [wBox], fun k hk => by show _ ≤ tempAt ((List.range n).map _) k ∧ tempAt ((List.range n).map _) k ≤ _; rw [tempAt_map hk]; exact g _ _ _ k hk,
    fun k hk => by show _ ≤ tempAt ((List.range n).map _) k ∧ tempAt ((List.range n).map _) k ≤ _; rw [tempAt_map hk]; exact g _ _ _ k hk, hw, hs, hs, hs⟩
theorem wBox_watch {c : Ck} {d : List Span} (h : GoodK c) (hd : daysOk c d = true) (b : List Int) {wr : Int} (hw : 0 ≤ wr ∧ wr ≤ 1000) {n : Nat} (hn : n ≤ d.length) (who on : Nat) (J : Int) : Watch (wBox c d b wr n who on J) n (eA c d b) (rAt c d n) who on J := by
  refine ⟨fun k hk => ?_, fun k hk => ?_, fun k i hk h0 hi => eA_rate h hd b k hn h0 hi, fun k hk => ?_⟩
  · show -wr ≤ tempAt ((List.range n).map _) k - _ ∧ tempAt ((List.range n).map _) k - _ ≤ wr
    rw [tempAt_map hk]
    have e3 := chosen_mem (pickI b ((k : Int) + (0 : Nat))) (show -wr ≤ wr by omega)
    unfold gBox fBox; omega
  · show -wr ≤ tempAt ((List.range n).map _) k - _ ∧ tempAt ((List.range n).map _) k - _ ≤ wr
    rw [tempAt_map hk]
    have e3 := chosen_mem (pickI b ((k : Int) + (1 : Nat))) (show -wr ≤ wr by omega)
    unfold gBox fBox; omega
  · match k, hk with
    | 0, _ => rfl
    | 1, _ => rfl
    | 2, _ => rfl
theorem jbit_0 : ∀ c, c < 3 → jbit 0 c = false := by intro c _; unfold jbit; simp
/-- WHAT THE WATCH TELLS, AS LONG AS NONE HAS JUMPED. -/
theorem box_calm {c : Ck} {d : List Span} (h : GoodK c) (hd : daysOk c d = true) (b : List Int) {wr : Int} (hw : 0 ≤ wr ∧ wr ≤ 1000) {n : Nat} (hn2 : 2 ≤ n) (hn20 : n ≤ 20) (hn : n ≤ d.length) (hr : -100000 ≤ (rAt c d n).lo ∧ (rAt c d n).hi ≤ 100000) : ∀ m, 1 ≤ m → m ≤ n → canB (wBox c d b wr n 0 n 0) 0 m = true := fun m h1 hm =>
  can_of ((wBox_good h hd b hw hn2 hn20 hn hr 0 n (by omega)).good m hm) (by omega) ((wBox_watch h hd b hw hn 0 n 0).before hm hm _)
/-- .. AND AS SOON AS ONE HAS. -/
theorem box_jump {c : Ck} {d : List Span} (h : GoodK c) (hd : daysOk c d = true) (b : List Int) {wr : Int} (hw : 0 ≤ wr ∧ wr ≤ 1000) {n : Nat} (hn2 : 2 ≤ n) (hn20 : n ≤ 20) (hn : n ≤ d.length) (hr : -100000 ≤ (rAt c d n).lo ∧ (rAt c d n).hi ≤ 100000) {who on : Nat} {J : Int} (hJ : 0 ≤ J ∧ J ≤ 1000000) (hw3 : who < 3) (h0 : 0 < on) (ho : on < n) (hJ2 : 2 * ((rAt c d n).hi - (rAt c d n).lo) + 4 * wr < J) :
    (∀ d', d' < on → canB (wBox c d b wr n who on J) 0 (d' + 1) = true) ∧ canB (wBox c d b wr n who on J) 0 (on + 1) = false ∧ canB (wBox c d b wr n who on J) 0 n = false ∧ canB (wBox c d b wr n who on J) ((2 ^ who : Nat) : Int) n = true := by
  have hg := (wBox_good h hd b hw hn2 hn20 hn hr who on hJ).good
  have hW := wBox_watch h hd b hw hn who on J
  have no : ∀ m, on < m → m ≤ n → canB (wBox c d b wr n who on J) 0 m = false := fun m h1 h2 => by
    cases hc : canB (wBox c d b wr n who on J) 0 m with
    | false => rfl
    | true =>
      obtain ⟨p, hp⟩ := can_only (hg m h2) (by omega) hc
      exact (hW.none hw3 h0 ho hJ2 h1 jbit_0 p hp).elim
  refine ⟨fun m hm => can_of (hg (m + 1) (by omega)) (by omega) (hW.before (by omega) (by omega) _), no _ (by omega) (by omega), no _ ho (Nat.le_refl _), can_of (hg n (Nat.le_refl _)) hn20 (hW.left ?_)⟩
  rcases (by omega : who = 0 ∨ who = 1 ∨ who = 2) with rfl | rfl | rfl <;> decide
end Go.Ok

/- Part Kv. -/
namespace Go.Proofs.Ytadkjjnnnkfalaa
open Go.RowKit Go.Pm Go.Oc Go.Oh Go.Os Go.Ok
set_option maxRecDepth 100000
set_option linter.unusedVariables false
set_option maxHeartbeats 16000000

theorem TopBoxBad_c (c : Ck) {tT tR sD : TV} {d : List Span} (hT : IsRow ic tT c.temps) (hR : IsRow Span.cs tR c.rates) (hD : IsRow Span.cs sD d) (h1 : c.temps.length ≤ 17592186044415) (h2 : c.rates.length ≤ 17592186044415) (h3 : d.length ≤ 17592186044415) (h : ckOk c = false ∨ daysOk c d = false) (w0 : Int) (u : TV) :
    PCalls Try.prog 4 [c.t tT tR, sD, .int .i64 w0, u] (.bool true) := by
  have hC := kConeBad_c c hT hR hD h1 h2 h3 h
  have e0 : ((if ckOk c then (71 : Int) else 70) != 0) = true := by split <;> rfl
  generalize (if ckOk c then (71 : Int) else 70) = E at *
  refine pcalls_by Try.mixes (Spec.one_ok kBox07_ok (Spec.one_ok (shotP_ok hC) Sx.spH_ok)) (fn := Try.f4) Try.func4 rfl (by kernel_rfl) (by show 4 ≤ _; decide) ?_
  rcases hD with ⟨rfl, rfl⟩ | ⟨fD, rfl⟩
  · simp (decide := true) (maxSteps := 4000000) only [go_sem, Nat.reduceAdd, Nat.reduceSub, Nat.reduceMul, Nat.reduceDiv, Nat.reduceMod, Nat.reduceLT, Nat.reduceLeDiff, Nat.reduceEqDiff, Nat.reduceBEq, Nat.reduceBNe, Nat.reduceGT, Int.reduceAdd, Int.reduceSub, Int.reduceMul, Int.reduceNeg, Int.reduceLT, Int.reduceLE, Int.reduceEq, Int.reduceNe, Int.reduceBEq, Int.reduceBNe, Int.reduceToNat, Int.reduceGT, Int.reduceGE, ↓reduceIte, decide_true, decide_false, eq_self, Nat.mul_one, Nat.zero_mul, Nat.one_mul, Int.le_refl, Nat.le_refl, Int.cast_ofNat_Int, Try.f4, Ck.t, Ck.cs, e0]
    first | done | trace_state
  · simp (decide := true) (maxSteps := 4000000) only [go_sem, Nat.reduceAdd, Nat.reduceSub, Nat.reduceMul, Nat.reduceDiv, Nat.reduceMod, Nat.reduceLT, Nat.reduceLeDiff, Nat.reduceEqDiff, Nat.reduceBEq, Nat.reduceBNe, Nat.reduceGT, Int.reduceAdd, Int.reduceSub, Int.reduceMul, Int.reduceNeg, Int.reduceLT, Int.reduceLE, Int.reduceEq, Int.reduceNe, Int.reduceBEq, Int.reduceBNe, Int.reduceToNat, Int.reduceGT, Int.reduceGE, ↓reduceIte, decide_true, decide_false, eq_self, Nat.mul_one, Nat.zero_mul, Nat.one_mul, Int.le_refl, Nat.le_refl, Int.cast_ofNat_Int, Try.f4, Ck.t, Ck.cs, e0]
    first | done | trace_state
open Classical in
noncomputable def gGone (cT dT bT : TV) (R : Int → TV) : List TV → Option TV
  | [c, d, b, .int .i64 fr] => if c = cT ∧ d = dT ∧ b = bT ∧ 0 ≤ fr ∧ fr ≤ 100 then some (R fr) else none
  | _ => none
theorem gGone_ok {P : Program} {f : FuncId} {cT dT bT : TV} {R : Int → TV} (h : ∀ fr, 0 ≤ fr ∧ fr ≤ 100 → PCalls P f [cT, dT, bT, .int .i64 fr] (R fr)) : ∀ a r, gGone cT dT bT R a = some r → PCalls P f a r := by
  intro a r e
  unfold gGone at e
  split at e
  · split at e
    · rename_i hc; obtain ⟨rfl, rfl, rfl, hc⟩ := hc; cases e; exact h _ hc
    · cases e
  · cases e
open Classical in
@[go_sem] theorem gGone_eq (cT dT bT : TV) (R : Int → TV) (c d b : TV) (fr : Int) : gGone cT dT bT R [c, d, b, .int .i64 fr] = if c = cT ∧ d = dT ∧ b = bT ∧ 0 ≤ fr ∧ fr ≤ 100 then some (R fr) else none := rfl
/-- The rows of the three clocks' errors. -/
def allL (E : Nat → List Int) (n : Nat) (k : Nat) : List TV := (List.range k).map fun i => .sl (ints (E i)) n true
theorem TopBoxOff_c (c : Ck) {d : List Span} (fT fR fD : Bool) (hok : ckOk c = true) (hdo : daysOk c d = true) (w0 : Int) (b : List Int) {u : TV} (hu : IsRow ic u b) (hb : b.length ≤ 9223372036854775806) (n : Nat) (hn : min (d.length : Int) 20 = n) (hc : ¬ (2 ≤ n ∧ -100000 ≤ (rAt c d n).lo ∧ (rAt c d n).hi ≤ 100000)) :
    PCalls Try.prog 4 [c.t (.sl (ints c.temps) c.temps.length fT) (.sl (c.rates.flatMap Span.cs) c.rates.length fR), .sl (d.flatMap Span.cs) d.length fD, .int .i64 w0, u] (.bool true) := by
  have hG := ckOk_good hok
  have hC := kCone_c c fT fR fD hok hdo
  have hGo := fun fr (hfr : 0 ≤ fr ∧ fr ≤ 100) => kGone_c c fT fR fD hok hdo b hu hb fr hfr
  have hd' := daysOk_iff hdo
  have hnd : n ≤ d.length ∧ n ≤ 20 ∧ 1 ≤ n := by omega
  obtain ⟨wr, hwr⟩ : ∃ wr, w0 % 1001 = wr := ⟨_, rfl⟩
  have hw : 0 ≤ wr ∧ wr ≤ 1000 := by omega
  have d1 : (0 : Int) < 1001 ∧ (1001 : Int) ≤ 9223372036854775807 := by decide
  have rB := rowI_is hu
  unfold rowL at rB
  simp only [unI_nil] at rB
  have hcb := coneAt_b hG hdo
  refine pcalls_by Try.mixes (Spec.one_ok kBox07_ok (Spec.one_ok (shotP_ok hC) (Spec.one_ok (gGone_ok hGo) Sx.spH_ok))) (fn := Try.f4) Try.func4 rfl (by kernel_rfl) (by show 4 ≤ _; decide) ?_
  have hCT : ∀ k, k < d.length → (coneTo c d d.length)[k]? = some (coneAt c d (k + 1)) := fun k hk => by unfold coneTo; rw [List.getElem?_map, List.getElem?_range hk]; rfl
  simp (decide := true) (maxSteps := 4000000) only [go_sem, Nat.reduceAdd, Nat.reduceSub, Nat.reduceMul, Nat.reduceDiv, Nat.reduceMod, Nat.reduceLT, Nat.reduceLeDiff, Nat.reduceEqDiff, Nat.reduceBEq, Nat.reduceBNe, Nat.reduceGT, Int.reduceAdd, Int.reduceSub, Int.reduceMul, Int.reduceNeg, Int.reduceLT, Int.reduceLE, Int.reduceEq, Int.reduceNe, Int.reduceBEq, Int.reduceBNe, Int.reduceToNat, Int.reduceGT, Int.reduceGE, ↓reduceIte, decide_true, decide_false, eq_self, Nat.mul_one, Nat.zero_mul, Nat.one_mul, Int.le_refl, Nat.le_refl, Int.cast_ofNat_Int, Try.f4, Ck.t, Ck.cs, hn, hwr, d1, bne_self_eq_false]
  refine pwpC_loopU (A := { j : Nat // j + 1 ≤ n }) [1, 2, 3, 4, 9, 11, 12] (fun j => [(13, .t (.int .i64 ((j.1 + 1 : Nat) : Int)))]) (fun j => [(1, .box [.t (.int .i64 (rAt c d (j.1 + 1)).lo), .t (.int .i64 (rAt c d (j.1 + 1)).hi)])]) (fun j => n - j.1) ⟨0, by omega⟩ (by decide) (fun _ => by rfl) ?_ fun Q1 hQ1 ⟨j, hj⟩ I1 hI1 => ?_
  · simp (decide := true) (maxSteps := 4000000) only [go_sem, Nat.reduceAdd, Nat.reduceSub, Nat.reduceMul, Nat.reduceDiv, Nat.reduceMod, Nat.reduceLT, Nat.reduceLeDiff, Nat.reduceEqDiff, Nat.reduceBEq, Nat.reduceBNe, Nat.reduceGT, Int.reduceAdd, Int.reduceSub, Int.reduceMul, Int.reduceNeg, Int.reduceLT, Int.reduceLE, Int.reduceEq, Int.reduceNe, Int.reduceBEq, Int.reduceBNe, Int.reduceToNat, Int.reduceGT, Int.reduceGE, ↓reduceIte, decide_true, decide_false, eq_self, Nat.mul_one, Nat.zero_mul, Nat.one_mul, Int.le_refl, Nat.le_refl, Int.cast_ofNat_Int, show rAt c d 1 = ⟨0, 0⟩ from rfl]
    first | done | trace_state
  · by_cases hlt : ((j + 1 : Nat) : Int) < n
    · have hx := hCT (j + 1) (by omega)
      have hy := hCT j (by omega)
      have dx := flat_at Span.cs (n := 2) (fun _ => rfl) hx
      have dy := flat_at Span.cs (n := 2) (fun _ => rfl) hy
      have l1 : ((j + 1 : Nat) : Int) < d.length := by omega
      have l2 : (j : Int) < d.length := by omega
      have w1 : IntKind.i64.wrap (((j + 1 : Nat) : Int) - 1) = (j : Int) := by rw [wrap_in (by omega) (by omega)]; omega
      have w2 : IntKind.i64.wrap (((j + 1 : Nat) : Int) + 1) = ((j + 1 + 1 : Nat) : Int) := by rw [wrap_in (by omega) (by omega)]; omega
      have b1 := hcb (j + 1) (by omega)
      have b2 := hcb (j + 1 + 1) (by omega)
      have w3 : IntKind.i64.wrap ((coneAt c d (j + 1 + 1)).lo - (coneAt c d (j + 1)).lo) = (dayD c d (j + 1)).lo := wrap_in (by omega) (by omega)
      have w4 : IntKind.i64.wrap ((coneAt c d (j + 1 + 1)).hi - (coneAt c d (j + 1)).hi) = (dayD c d (j + 1)).hi := wrap_in (by omega) (by omega)
      have e1 : (((j + 1 : Nat) : Int) == 1) = decide (j = 0) := by by_cases h : j = 0 <;> simp [h]; omega
      have e2 : decide (j + 1 = 1) = decide (j = 0) := decide_eq_decide.2 (by omega)
      have hr : rAt c d (j + 1 + 1) = widerS (widerS (rAt c d (j + 1)) (dayD c d (j + 1)).lo (decide (j = 0))) (dayD c d (j + 1)).hi false := by rw [rAt, if_neg (by omega), e2]
      obtain ⟨⟨p0, p1⟩, hp⟩ : ∃ p, widerS (rAt c d (j + 1)) (dayD c d (j + 1)).lo (decide (j = 0)) = p := ⟨_, rfl⟩
      obtain ⟨⟨q0, q1⟩, hq⟩ : ∃ q, widerS ⟨p0, p1⟩ (dayD c d (j + 1)).hi false = q := ⟨_, rfl⟩
      rw [hp, hq] at hr
      obtain ⟨⟨r0, r1⟩, hR⟩ : ∃ r, rAt c d (j + 1) = r := ⟨_, rfl⟩
      rw [hR] at hp
      simp (decide := true) (maxSteps := 4000000) only [go_sem, Nat.reduceAdd, Nat.reduceSub, Nat.reduceMul, Nat.reduceDiv, Nat.reduceMod, Nat.reduceLT, Nat.reduceLeDiff, Nat.reduceEqDiff, Nat.reduceBEq, Nat.reduceBNe, Nat.reduceGT, Int.reduceAdd, Int.reduceSub, Int.reduceMul, Int.reduceNeg, Int.reduceLT, Int.reduceLE, Int.reduceEq, Int.reduceNe, Int.reduceBEq, Int.reduceBNe, Int.reduceToNat, Int.reduceGT, Int.reduceGE, ↓reduceIte, decide_true, decide_false, eq_self, Nat.mul_one, Nat.zero_mul, Nat.one_mul, Int.le_refl, Nat.le_refl, Int.cast_ofNat_Int, hlt, dx, dy, l1, l2, w1, w3, w4, Span.cs, e1, hR, hp, hq, Span.t]
      refine hI1 _ ⟨j + 1, by omega⟩ (by simp only; omega) ?_
      simp (decide := true) (maxSteps := 4000000) only [go_sem, Nat.reduceAdd, Nat.reduceSub, Nat.reduceMul, Nat.reduceDiv, Nat.reduceMod, Nat.reduceLT, Nat.reduceLeDiff, Nat.reduceEqDiff, Nat.reduceBEq, Nat.reduceBNe, Nat.reduceGT, Int.reduceAdd, Int.reduceSub, Int.reduceMul, Int.reduceNeg, Int.reduceLT, Int.reduceLE, Int.reduceEq, Int.reduceNe, Int.reduceBEq, Int.reduceBNe, Int.reduceToNat, Int.reduceGT, Int.reduceGE, ↓reduceIte, decide_true, decide_false, eq_self, Nat.mul_one, Nat.zero_mul, Nat.one_mul, Int.le_refl, Nat.le_refl, Int.cast_ofNat_Int, w2, hr]
      first | done | trace_state
    · have hjn : j + 1 = n := by omega
      simp (decide := true) (maxSteps := 4000000) only [go_sem, Nat.reduceAdd, Nat.reduceSub, Nat.reduceMul, Nat.reduceDiv, Nat.reduceMod, Nat.reduceLT, Nat.reduceLeDiff, Nat.reduceEqDiff, Nat.reduceBEq, Nat.reduceBNe, Nat.reduceGT, Int.reduceAdd, Int.reduceSub, Int.reduceMul, Int.reduceNeg, Int.reduceLT, Int.reduceLE, Int.reduceEq, Int.reduceNe, Int.reduceBEq, Int.reduceBNe, Int.reduceToNat, Int.reduceGT, Int.reduceGE, ↓reduceIte, decide_true, decide_false, eq_self, Nat.mul_one, Nat.zero_mul, Nat.one_mul, Int.le_refl, Nat.le_refl, Int.cast_ofNat_Int, hlt]
      refine hQ1 _ _ ?_
      simp (decide := true) (maxSteps := 4000000) only [go_sem, Nat.reduceAdd, Nat.reduceSub, Nat.reduceMul, Nat.reduceDiv, Nat.reduceMod, Nat.reduceLT, Nat.reduceLeDiff, Nat.reduceEqDiff, Nat.reduceBEq, Nat.reduceBNe, Nat.reduceGT, Int.reduceAdd, Int.reduceSub, Int.reduceMul, Int.reduceNeg, Int.reduceLT, Int.reduceLE, Int.reduceEq, Int.reduceNe, Int.reduceBEq, Int.reduceBNe, Int.reduceToNat, Int.reduceGT, Int.reduceGE, ↓reduceIte, decide_true, decide_false, eq_self, Nat.mul_one, Nat.zero_mul, Nat.one_mul, Int.le_refl, Nat.le_refl, Int.cast_ofNat_Int]
      refine condC_splitB (fun _ => ?_) (fun ht => ?_)
      · simp (decide := true) (maxSteps := 4000000) only [go_sem, Nat.reduceAdd, Nat.reduceSub, Nat.reduceMul, Nat.reduceDiv, Nat.reduceMod, Nat.reduceLT, Nat.reduceLeDiff, Nat.reduceEqDiff, Nat.reduceBEq, Nat.reduceBNe, Nat.reduceGT, Int.reduceAdd, Int.reduceSub, Int.reduceMul, Int.reduceNeg, Int.reduceLT, Int.reduceLE, Int.reduceEq, Int.reduceNe, Int.reduceBEq, Int.reduceBNe, Int.reduceToNat, Int.reduceGT, Int.reduceGE, ↓reduceIte, decide_true, decide_false, eq_self, Nat.mul_one, Nat.zero_mul, Nat.one_mul, Int.le_refl, Nat.le_refl, Int.cast_ofNat_Int]
      · refine (hc ?_).elim
        rw [hjn] at ht
        simp only [Bool.or_eq_false_iff, Bool.and_eq_false_iff, decide_eq_false_iff_not, Bool.not_eq_false', decide_eq_true_eq, Bool.or_eq_true, Bool.and_eq_true] at ht
        omega
theorem TopBoxOn_c (c : Ck) {d : List Span} (fT fR fD : Bool) (hok : ckOk c = true) (hdo : daysOk c d = true) (w0 : Int) (b : List Int) {u : TV} (hu : IsRow ic u b) (hb : b.length ≤ 9223372036854775806) (n : Nat) (hn : min (d.length : Int) 20 = n) (hc : 2 ≤ n ∧ -100000 ≤ (rAt c d n).lo ∧ (rAt c d n).hi ≤ 100000) :
    PCalls Try.prog 4 [c.t (.sl (ints c.temps) c.temps.length fT) (.sl (c.rates.flatMap Span.cs) c.rates.length fR), .sl (d.flatMap Span.cs) d.length fD, .int .i64 w0, u] (.bool true) := by
  have hG := ckOk_good hok
  have hC := kCone_c c fT fR fD hok hdo
  have hGo := fun fr (hfr : 0 ≤ fr ∧ fr ≤ 100) => kGone_c c fT fR fD hok hdo b hu hb fr hfr
  have hd' := daysOk_iff hdo
  have hnd : n ≤ d.length ∧ n ≤ 20 ∧ 1 ≤ n := by omega
  obtain ⟨wr, hwr⟩ : ∃ wr, w0 % 1001 = wr := ⟨_, rfl⟩
  have hw : 0 ≤ wr ∧ wr ≤ 1000 := by omega
  have d1 : (0 : Int) < 1001 ∧ (1001 : Int) ≤ 9223372036854775807 := by decide
  have rB := rowI_is hu
  unfold rowL at rB
  simp only [unI_nil] at rB
  have hcb := coneAt_b hG hdo
  -- who jumps, when, by how much
  have p1 := Int.emod_nonneg (pickI b 2) (show (3 : Int) ≠ 0 by decide)
  have p2 := Int.emod_lt_of_pos (pickI b 2) (show (0 : Int) < 3 by decide)
  have p3 := Int.emod_nonneg (pickI b 3) (show (n : Int) - 1 ≠ 0 by omega)
  have p4 := Int.emod_lt_of_pos (pickI b 3) (show (0 : Int) < (n : Int) - 1 by omega)
  have p5 := Int.emod_nonneg (pickI b 4) (show (1000 : Int) ≠ 0 by decide)
  have p6 := Int.emod_lt_of_pos (pickI b 4) (show (0 : Int) < 1000 by decide)
  obtain ⟨who, hwho⟩ : ∃ who : Nat, pickI b 2 % 3 = who := ⟨_, (Int.toNat_of_nonneg p1).symm⟩
  obtain ⟨m3, hm3⟩ : ∃ m3 : Nat, pickI b 3 % ((n : Int) - 1) = m3 := ⟨_, (Int.toNat_of_nonneg p3).symm⟩
  obtain ⟨m4, hm4⟩ : ∃ m4 : Int, pickI b 4 % 1000 = m4 := ⟨_, rfl⟩
  rw [hwho] at p2
  rw [hm3] at p4
  rw [hm4] at p5 p6
  have hmem := rAt_mem c d n 1 (by omega) (by omega)
  obtain ⟨J, hJ⟩ : ∃ J, 2 * ((rAt c d n).hi - (rAt c d n).lo) + 8 * wr + 1 + m4 = J := ⟨_, rfl⟩
  have hJb : 0 ≤ J ∧ J ≤ 1000000 := by omega
  have good0 := wBox_good hG hdo b hw hc.1 hnd.2.1 hnd.1 hc.2 0 n (J := 0) (by omega)
  have good1 := wBox_good hG hdo b hw hc.1 hnd.2.1 hnd.1 hc.2 who (m3 + 1) hJb
  have calm := box_calm hG hdo b hw hc.1 hnd.2.1 hnd.1 hc.2
  obtain ⟨jmp1, jmp2, jmp3, jmp4⟩ := box_jump hG hdo b hw hc.1 hnd.2.1 hnd.1 hc.2 hJb (who := who) (on := m3 + 1) (by omega) (by omega) (by omega) (by omega)
  have t0 := try_zero (calm n (by omega) (Nat.le_refl _))
  have t1 := try_none jmp3
  have t2 := try_one (by omega) jmp4
  have hJ0 := kJumped_c _ false false n good0 (fun h => by rw [t0] at h; cases h)
  have hJ1 := kJumped_c _ false false n good1 (fun _ h => by rw [h] at t2; cases t2.1)
  have hS0 := kSince_c _ false false n good0 n (Nat.le_refl _) (fun d' h => calm (d' + 1) (by omega) (by omega)) (fun h => by omega)
  have hS1 := kSince_c _ false false n good1 (m3 + 1) (by omega) (fun d' h => jmp1 d' h) (fun _ => jmp2)
  have tl := tryI_len (wBox c d b wr n who (m3 + 1) J) n 1 8
  rw [t0, if_neg (by simp)] at hJ0
  rw [t1, if_pos rfl] at hJ1
  rw [if_neg (by omega), if_neg (by omega)] at hS0
  rw [if_pos (by omega), if_pos (by omega)] at hS1
  have hfl0 := good0.fl
  have hsl0 := good0.sl
  have hfl1 := good1.fl
  have hsl1 := good1.sl
  obtain ⟨L1, hL1⟩ : ∃ L1, tryI (wBox c d b wr n who (m3 + 1) J) n 1 8 = L1 := ⟨_, rfl⟩
  rw [hL1] at hJ1 t2 tl
  obtain ⟨PW, hPW⟩ : ∃ PW : Int, ((2 ^ who : Nat) : Int) = PW := ⟨_, rfl⟩
  rw [hPW] at t2
  have hP1 := kPlace_c (l := L1) true (by omega) PW
  have hP2 := kPlace_c (l := L1) true (by omega) 0
  have q1 := (plc_in PW L1 0).1 t2.1
  have q2 := (plc_in 0 L1 0).2 t2.2
  simp only [Wa.cs, hfl0, hsl0] at hJ0 hS0
  simp only [Wa.cs, hfl1, hsl1] at hJ1 hS1
  have gG : ∀ x y o k, gBox c d b wr 0 n 0 x y o k = fBox c d b wr x y o k := fun x y o k => by unfold gBox jmp; split <;> split <;> omega
  have gH : ∀ x y o k, gBox c d b wr who (m3 + 1) J x y o k = fBox c d b wr x y o k + (jmp who (m3 + 1) J x k - jmp who (m3 + 1) J y k) := fun x y o k => rfl
  have fb' := fun x y o k (hk : k < n) => fBox_b hG hdo b hw x y o (i := k) (by omega)
  obtain ⟨G, hGG⟩ : ∃ G : Nat → Nat → Nat → Nat → Int, gBox c d b wr 0 n 0 = G := ⟨_, rfl⟩
  obtain ⟨H, hHH⟩ : ∃ H : Nat → Nat → Nat → Nat → Int, gBox c d b wr who (m3 + 1) J = H := ⟨_, rfl⟩
  simp only [wBox, hGG] at hJ0 hS0
  simp only [wBox, hHH] at hJ1 hS1
  rw [hGG] at gG
  rw [hHH] at gH
  refine pcalls_by Try.mixes (Spec.one_ok kBox07_ok (Spec.one_ok (shotP_ok hC) (Spec.one_ok (gGone_ok hGo) (Spec.one_ok (shots2_ok hJ0 hJ1) (Spec.one_ok (shots2_ok hS0 hS1) (Spec.one_ok (shots2_ok hP1 hP2) Sx.spH_ok)))))) (fn := Try.f4) Try.func4 rfl (by kernel_rfl) (by show 4 ≤ _; decide) ?_
  have hCT : ∀ k, k < d.length → (coneTo c d d.length)[k]? = some (coneAt c d (k + 1)) := fun k hk => by unfold coneTo; rw [List.getElem?_map, List.getElem?_range hk]; rfl
  simp (decide := true) (maxSteps := 4000000) only [go_sem, Nat.reduceAdd, Nat.reduceSub, Nat.reduceMul, Nat.reduceDiv, Nat.reduceMod, Nat.reduceLT, Nat.reduceLeDiff, Nat.reduceEqDiff, Nat.reduceBEq, Nat.reduceBNe, Nat.reduceGT, Int.reduceAdd, Int.reduceSub, Int.reduceMul, Int.reduceNeg, Int.reduceLT, Int.reduceLE, Int.reduceEq, Int.reduceNe, Int.reduceBEq, Int.reduceBNe, Int.reduceToNat, Int.reduceGT, Int.reduceGE, ↓reduceIte, decide_true, decide_false, eq_self, Nat.mul_one, Nat.zero_mul, Nat.one_mul, Int.le_refl, Nat.le_refl, Int.cast_ofNat_Int, Try.f4, Ck.t, Ck.cs, hn, hwr, d1, bne_self_eq_false]
  refine pwpC_loopU (A := { j : Nat // j + 1 ≤ n }) [1, 2, 3, 4, 9, 11, 12] (fun j => [(13, .t (.int .i64 ((j.1 + 1 : Nat) : Int)))]) (fun j => [(1, .box [.t (.int .i64 (rAt c d (j.1 + 1)).lo), .t (.int .i64 (rAt c d (j.1 + 1)).hi)])]) (fun j => n - j.1) ⟨0, by omega⟩ (by decide) (fun _ => by rfl) ?_ fun Q1 hQ1 ⟨j, hj⟩ I1 hI1 => ?_
  · simp (decide := true) (maxSteps := 4000000) only [go_sem, Nat.reduceAdd, Nat.reduceSub, Nat.reduceMul, Nat.reduceDiv, Nat.reduceMod, Nat.reduceLT, Nat.reduceLeDiff, Nat.reduceEqDiff, Nat.reduceBEq, Nat.reduceBNe, Nat.reduceGT, Int.reduceAdd, Int.reduceSub, Int.reduceMul, Int.reduceNeg, Int.reduceLT, Int.reduceLE, Int.reduceEq, Int.reduceNe, Int.reduceBEq, Int.reduceBNe, Int.reduceToNat, Int.reduceGT, Int.reduceGE, ↓reduceIte, decide_true, decide_false, eq_self, Nat.mul_one, Nat.zero_mul, Nat.one_mul, Int.le_refl, Nat.le_refl, Int.cast_ofNat_Int, show rAt c d 1 = ⟨0, 0⟩ from rfl]
    first | done | trace_state
  · by_cases hlt : ((j + 1 : Nat) : Int) < n
    · have hx := hCT (j + 1) (by omega)
      have hy := hCT j (by omega)
      have dx := flat_at Span.cs (n := 2) (fun _ => rfl) hx
      have dy := flat_at Span.cs (n := 2) (fun _ => rfl) hy
      have l1 : ((j + 1 : Nat) : Int) < d.length := by omega
      have l2 : (j : Int) < d.length := by omega
      have w1 : IntKind.i64.wrap (((j + 1 : Nat) : Int) - 1) = (j : Int) := by rw [wrap_in (by omega) (by omega)]; omega
      have w2 : IntKind.i64.wrap (((j + 1 : Nat) : Int) + 1) = ((j + 1 + 1 : Nat) : Int) := by rw [wrap_in (by omega) (by omega)]; omega
      have b1 := hcb (j + 1) (by omega)
      have b2 := hcb (j + 1 + 1) (by omega)
      have w3 : IntKind.i64.wrap ((coneAt c d (j + 1 + 1)).lo - (coneAt c d (j + 1)).lo) = (dayD c d (j + 1)).lo := wrap_in (by omega) (by omega)
      have w4 : IntKind.i64.wrap ((coneAt c d (j + 1 + 1)).hi - (coneAt c d (j + 1)).hi) = (dayD c d (j + 1)).hi := wrap_in (by omega) (by omega)
      have e1 : (((j + 1 : Nat) : Int) == 1) = decide (j = 0) := by by_cases h : j = 0 <;> simp [h]; omega
      have e2 : decide (j + 1 = 1) = decide (j = 0) := decide_eq_decide.2 (by omega)
      have hr : rAt c d (j + 1 + 1) = widerS (widerS (rAt c d (j + 1)) (dayD c d (j + 1)).lo (decide (j = 0))) (dayD c d (j + 1)).hi false := by rw [rAt, if_neg (by omega), e2]
      obtain ⟨⟨p0, p1⟩, hp⟩ : ∃ p, widerS (rAt c d (j + 1)) (dayD c d (j + 1)).lo (decide (j = 0)) = p := ⟨_, rfl⟩
      obtain ⟨⟨q0, q1⟩, hq⟩ : ∃ q, widerS ⟨p0, p1⟩ (dayD c d (j + 1)).hi false = q := ⟨_, rfl⟩
      rw [hp, hq] at hr
      obtain ⟨⟨r0, r1⟩, hR⟩ : ∃ r, rAt c d (j + 1) = r := ⟨_, rfl⟩
      rw [hR] at hp
      simp (decide := true) (maxSteps := 4000000) only [go_sem, Nat.reduceAdd, Nat.reduceSub, Nat.reduceMul, Nat.reduceDiv, Nat.reduceMod, Nat.reduceLT, Nat.reduceLeDiff, Nat.reduceEqDiff, Nat.reduceBEq, Nat.reduceBNe, Nat.reduceGT, Int.reduceAdd, Int.reduceSub, Int.reduceMul, Int.reduceNeg, Int.reduceLT, Int.reduceLE, Int.reduceEq, Int.reduceNe, Int.reduceBEq, Int.reduceBNe, Int.reduceToNat, Int.reduceGT, Int.reduceGE, ↓reduceIte, decide_true, decide_false, eq_self, Nat.mul_one, Nat.zero_mul, Nat.one_mul, Int.le_refl, Nat.le_refl, Int.cast_ofNat_Int, hlt, dx, dy, l1, l2, w1, w3, w4, Span.cs, e1, hR, hp, hq, Span.t]
      refine hI1 _ ⟨j + 1, by omega⟩ (by simp only; omega) ?_
      simp (decide := true) (maxSteps := 4000000) only [go_sem, Nat.reduceAdd, Nat.reduceSub, Nat.reduceMul, Nat.reduceDiv, Nat.reduceMod, Nat.reduceLT, Nat.reduceLeDiff, Nat.reduceEqDiff, Nat.reduceBEq, Nat.reduceBNe, Nat.reduceGT, Int.reduceAdd, Int.reduceSub, Int.reduceMul, Int.reduceNeg, Int.reduceLT, Int.reduceLE, Int.reduceEq, Int.reduceNe, Int.reduceBEq, Int.reduceBNe, Int.reduceToNat, Int.reduceGT, Int.reduceGE, ↓reduceIte, decide_true, decide_false, eq_self, Nat.mul_one, Nat.zero_mul, Nat.one_mul, Int.le_refl, Nat.le_refl, Int.cast_ofNat_Int, w2, hr]
      first | done | trace_state
    · have hjn : j + 1 = n := by omega
      simp (decide := true) (maxSteps := 4000000) only [go_sem, Nat.reduceAdd, Nat.reduceSub, Nat.reduceMul, Nat.reduceDiv, Nat.reduceMod, Nat.reduceLT, Nat.reduceLeDiff, Nat.reduceEqDiff, Nat.reduceBEq, Nat.reduceBNe, Nat.reduceGT, Int.reduceAdd, Int.reduceSub, Int.reduceMul, Int.reduceNeg, Int.reduceLT, Int.reduceLE, Int.reduceEq, Int.reduceNe, Int.reduceBEq, Int.reduceBNe, Int.reduceToNat, Int.reduceGT, Int.reduceGE, ↓reduceIte, decide_true, decide_false, eq_self, Nat.mul_one, Nat.zero_mul, Nat.one_mul, Int.le_refl, Nat.le_refl, Int.cast_ofNat_Int, hlt]
      refine hQ1 _ _ ?_
      simp (decide := true) (maxSteps := 4000000) only [go_sem, Nat.reduceAdd, Nat.reduceSub, Nat.reduceMul, Nat.reduceDiv, Nat.reduceMod, Nat.reduceLT, Nat.reduceLeDiff, Nat.reduceEqDiff, Nat.reduceBEq, Nat.reduceBNe, Nat.reduceGT, Int.reduceAdd, Int.reduceSub, Int.reduceMul, Int.reduceNeg, Int.reduceLT, Int.reduceLE, Int.reduceEq, Int.reduceNe, Int.reduceBEq, Int.reduceBNe, Int.reduceToNat, Int.reduceGT, Int.reduceGE, ↓reduceIte, decide_true, decide_false, eq_self, Nat.mul_one, Nat.zero_mul, Nat.one_mul, Int.le_refl, Nat.le_refl, Int.cast_ofNat_Int]
      have nc : decide ((n : Int) < 2) = false := dec_nlt (by omega)
      have nc2 : decide ((rAt c d n).lo < -100000) = false := dec_nlt (by omega)
      have nc3 : decide ((rAt c d n).hi > 100000) = false := dec_ngt (by omega)
      rw [hjn]
      simp (decide := true) (maxSteps := 4000000) only [go_sem, Nat.reduceAdd, Nat.reduceSub, Nat.reduceMul, Nat.reduceDiv, Nat.reduceMod, Nat.reduceLT, Nat.reduceLeDiff, Nat.reduceEqDiff, Nat.reduceBEq, Nat.reduceBNe, Nat.reduceGT, Int.reduceAdd, Int.reduceSub, Int.reduceMul, Int.reduceNeg, Int.reduceLT, Int.reduceLE, Int.reduceEq, Int.reduceNe, Int.reduceBEq, Int.reduceBNe, Int.reduceToNat, Int.reduceGT, Int.reduceGE, ↓reduceIte, decide_true, decide_false, eq_self, Nat.mul_one, Nat.zero_mul, Nat.one_mul, Int.le_refl, Nat.le_refl, Int.cast_ofNat_Int, nc, nc2, nc3]
      obtain ⟨⟨r0, r1⟩, hR⟩ : ∃ r, rAt c d n = r := ⟨_, rfl⟩
      refine pwpC_loopU (A := { k : Nat // k ≤ 3 }) [1, 2, 3, 4, 11, 12] (fun k => [(17, .t (.int .i64 k.1)), (16, .own (([.sl (ints (errTo c (truC c d b 0) d.length)) d.length true, .sl (ints (errTo c (truC c d b 5) d.length)) d.length true, .sl (ints (errTo c (truC c d b 10) d.length)) d.length true] : List TV).take k.1) k.1 2)]) (fun k => [(2, .tok k.1 39)]) (fun k => 3 - k.1) ⟨0, by omega⟩ (by decide) (fun _ => by rfl) ?_ fun Q2 hQ2 ⟨k, hk⟩ I2 hI2 => ?_
      · simp (decide := true) (maxSteps := 4000000) only [go_sem, Nat.reduceAdd, Nat.reduceSub, Nat.reduceMul, Nat.reduceDiv, Nat.reduceMod, Nat.reduceLT, Nat.reduceLeDiff, Nat.reduceEqDiff, Nat.reduceBEq, Nat.reduceBNe, Nat.reduceGT, Int.reduceAdd, Int.reduceSub, Int.reduceMul, Int.reduceNeg, Int.reduceLT, Int.reduceLE, Int.reduceEq, Int.reduceNe, Int.reduceBEq, Int.reduceBNe, Int.reduceToNat, Int.reduceGT, Int.reduceGE, ↓reduceIte, decide_true, decide_false, eq_self, Nat.mul_one, Nat.zero_mul, Nat.one_mul, Int.le_refl, Nat.le_refl, Int.cast_ofNat_Int]
        first | done | trace_state
      · rcases (by omega : k = 0 ∨ k = 1 ∨ k = 2 ∨ k = 3) with rfl | rfl | rfl | rfl
        · simp (decide := true) (maxSteps := 4000000) only [go_sem, Nat.reduceAdd, Nat.reduceSub, Nat.reduceMul, Nat.reduceDiv, Nat.reduceMod, Nat.reduceLT, Nat.reduceLeDiff, Nat.reduceEqDiff, Nat.reduceBEq, Nat.reduceBNe, Nat.reduceGT, Int.reduceAdd, Int.reduceSub, Int.reduceMul, Int.reduceNeg, Int.reduceLT, Int.reduceLE, Int.reduceEq, Int.reduceNe, Int.reduceBEq, Int.reduceBNe, Int.reduceToNat, Int.reduceGT, Int.reduceGE, ↓reduceIte, decide_true, decide_false, eq_self, Nat.mul_one, Nat.zero_mul, Nat.one_mul, Int.le_refl, Nat.le_refl, Int.cast_ofNat_Int, Ck.t, Ck.cs]
          refine hI2 _ ⟨1, by omega⟩ (by simp only; omega) ?_
          simp (decide := true) (maxSteps := 4000000) only [go_sem, Nat.reduceAdd, Nat.reduceSub, Nat.reduceMul, Nat.reduceDiv, Nat.reduceMod, Nat.reduceLT, Nat.reduceLeDiff, Nat.reduceEqDiff, Nat.reduceBEq, Nat.reduceBNe, Nat.reduceGT, Int.reduceAdd, Int.reduceSub, Int.reduceMul, Int.reduceNeg, Int.reduceLT, Int.reduceLE, Int.reduceEq, Int.reduceNe, Int.reduceBEq, Int.reduceBNe, Int.reduceToNat, Int.reduceGT, Int.reduceGE, ↓reduceIte, decide_true, decide_false, eq_self, Nat.mul_one, Nat.zero_mul, Nat.one_mul, Int.le_refl, Nat.le_refl, Int.cast_ofNat_Int, show IntKind.i64.wrap 0 = 0 from rfl]
          first | done | trace_state
        · simp (decide := true) (maxSteps := 4000000) only [go_sem, Nat.reduceAdd, Nat.reduceSub, Nat.reduceMul, Nat.reduceDiv, Nat.reduceMod, Nat.reduceLT, Nat.reduceLeDiff, Nat.reduceEqDiff, Nat.reduceBEq, Nat.reduceBNe, Nat.reduceGT, Int.reduceAdd, Int.reduceSub, Int.reduceMul, Int.reduceNeg, Int.reduceLT, Int.reduceLE, Int.reduceEq, Int.reduceNe, Int.reduceBEq, Int.reduceBNe, Int.reduceToNat, Int.reduceGT, Int.reduceGE, ↓reduceIte, decide_true, decide_false, eq_self, Nat.mul_one, Nat.zero_mul, Nat.one_mul, Int.le_refl, Nat.le_refl, Int.cast_ofNat_Int, Ck.t, Ck.cs]
          refine hI2 _ ⟨2, by omega⟩ (by simp only; omega) ?_
          simp (decide := true) (maxSteps := 4000000) only [go_sem, Nat.reduceAdd, Nat.reduceSub, Nat.reduceMul, Nat.reduceDiv, Nat.reduceMod, Nat.reduceLT, Nat.reduceLeDiff, Nat.reduceEqDiff, Nat.reduceBEq, Nat.reduceBNe, Nat.reduceGT, Int.reduceAdd, Int.reduceSub, Int.reduceMul, Int.reduceNeg, Int.reduceLT, Int.reduceLE, Int.reduceEq, Int.reduceNe, Int.reduceBEq, Int.reduceBNe, Int.reduceToNat, Int.reduceGT, Int.reduceGE, ↓reduceIte, decide_true, decide_false, eq_self, Nat.mul_one, Nat.zero_mul, Nat.one_mul, Int.le_refl, Nat.le_refl, Int.cast_ofNat_Int, show IntKind.i64.wrap 5 = 5 from rfl]
          first | done | trace_state
        · simp (decide := true) (maxSteps := 4000000) only [go_sem, Nat.reduceAdd, Nat.reduceSub, Nat.reduceMul, Nat.reduceDiv, Nat.reduceMod, Nat.reduceLT, Nat.reduceLeDiff, Nat.reduceEqDiff, Nat.reduceBEq, Nat.reduceBNe, Nat.reduceGT, Int.reduceAdd, Int.reduceSub, Int.reduceMul, Int.reduceNeg, Int.reduceLT, Int.reduceLE, Int.reduceEq, Int.reduceNe, Int.reduceBEq, Int.reduceBNe, Int.reduceToNat, Int.reduceGT, Int.reduceGE, ↓reduceIte, decide_true, decide_false, eq_self, Nat.mul_one, Nat.zero_mul, Nat.one_mul, Int.le_refl, Nat.le_refl, Int.cast_ofNat_Int, Ck.t, Ck.cs]
          refine hI2 _ ⟨3, by omega⟩ (by simp only; omega) ?_
          simp (decide := true) (maxSteps := 4000000) only [go_sem, Nat.reduceAdd, Nat.reduceSub, Nat.reduceMul, Nat.reduceDiv, Nat.reduceMod, Nat.reduceLT, Nat.reduceLeDiff, Nat.reduceEqDiff, Nat.reduceBEq, Nat.reduceBNe, Nat.reduceGT, Int.reduceAdd, Int.reduceSub, Int.reduceMul, Int.reduceNeg, Int.reduceLT, Int.reduceLE, Int.reduceEq, Int.reduceNe, Int.reduceBEq, Int.reduceBNe, Int.reduceToNat, Int.reduceGT, Int.reduceGE, ↓reduceIte, decide_true, decide_false, eq_self, Nat.mul_one, Nat.zero_mul, Nat.one_mul, Int.le_refl, Nat.le_refl, Int.cast_ofNat_Int, show IntKind.i64.wrap 10 = 10 from rfl]
          first | done | trace_state
        · simp (decide := true) (maxSteps := 4000000) only [go_sem, Nat.reduceAdd, Nat.reduceSub, Nat.reduceMul, Nat.reduceDiv, Nat.reduceMod, Nat.reduceLT, Nat.reduceLeDiff, Nat.reduceEqDiff, Nat.reduceBEq, Nat.reduceBNe, Nat.reduceGT, Int.reduceAdd, Int.reduceSub, Int.reduceMul, Int.reduceNeg, Int.reduceLT, Int.reduceLE, Int.reduceEq, Int.reduceNe, Int.reduceBEq, Int.reduceBNe, Int.reduceToNat, Int.reduceGT, Int.reduceGE, ↓reduceIte, decide_true, decide_false, eq_self, Nat.mul_one, Nat.zero_mul, Nat.one_mul, Int.le_refl, Nat.le_refl, Int.cast_ofNat_Int]
          refine hQ2 _ _ ?_
          simp (decide := true) (maxSteps := 4000000) only [go_sem, Nat.reduceAdd, Nat.reduceSub, Nat.reduceMul, Nat.reduceDiv, Nat.reduceMod, Nat.reduceLT, Nat.reduceLeDiff, Nat.reduceEqDiff, Nat.reduceBEq, Nat.reduceBNe, Nat.reduceGT, Int.reduceAdd, Int.reduceSub, Int.reduceMul, Int.reduceNeg, Int.reduceLT, Int.reduceLE, Int.reduceEq, Int.reduceNe, Int.reduceBEq, Int.reduceBNe, Int.reduceToNat, Int.reduceGT, Int.reduceGE, ↓reduceIte, decide_true, decide_false, eq_self, Nat.mul_one, Nat.zero_mul, Nat.one_mul, Int.le_refl, Nat.le_refl, Int.cast_ofNat_Int, hR, aggP, allO]
          refine pwpC_loopU (A := { k : Nat // k ≤ n }) [1, 2, 3, 4, 11, 12, 16, 20] (fun k => [(21, .t (.int .i64 k.1))]) (fun k => [(3, .box [.own (ints ((List.range k.1).map (G 0 1 0))) k.1 4, .own (ints ((List.range k.1).map (G 1 2 1))) k.1 5, .t (.int .i64 wr), .t (.int .i64 r0), .t (.int .i64 r1), .t (.int .i64 r0), .t (.int .i64 r1), .t (.int .i64 r0), .t (.int .i64 r1)]), (4, .tok k.1 3), (5, .tok k.1 3)]) (fun k => n - k.1) ⟨0, by omega⟩ (by decide) (fun _ => by rfl) ?_ fun Q3 hQ3 ⟨k, hk⟩ I3 hI3 => ?_
          · simp (decide := true) (maxSteps := 4000000) only [go_sem, Nat.reduceAdd, Nat.reduceSub, Nat.reduceMul, Nat.reduceDiv, Nat.reduceMod, Nat.reduceLT, Nat.reduceLeDiff, Nat.reduceEqDiff, Nat.reduceBEq, Nat.reduceBNe, Nat.reduceGT, Int.reduceAdd, Int.reduceSub, Int.reduceMul, Int.reduceNeg, Int.reduceLT, Int.reduceLE, Int.reduceEq, Int.reduceNe, Int.reduceBEq, Int.reduceBNe, Int.reduceToNat, Int.reduceGT, Int.reduceGE, ↓reduceIte, decide_true, decide_false, eq_self, Nat.mul_one, Nat.zero_mul, Nat.one_mul, Int.le_refl, Nat.le_refl, Int.cast_ofNat_Int, List.map_nil, show ints [] = [] from rfl]
            first | done | trace_state
          · by_cases hlt3 : (k : Int) < n
            · have hE : ∀ (fr : Int), (errTo c (truC c d b fr) d.length)[k]? = some (errAt c (truC c d b fr) (k + 1)) := fun fr => by unfold errTo; rw [List.getElem?_map, List.getElem?_range (by omega)]; rfl
              have x0 : errAt c (truC c d b 0) (k + 1) = eA c d b 0 k := rfl
              have x1 : errAt c (truC c d b 5) (k + 1) = eA c d b 1 k := rfl
              have x2 : errAt c (truC c d b 10) (k + 1) = eA c d b 2 k := rfl
              have y0 := ints_at (hE 0)
              have y1 := ints_at (hE 5)
              have y2 := ints_at (hE 10)
              rw [Nat.mul_one, x0] at y0
              rw [Nat.mul_one, x1] at y1
              rw [Nat.mul_one, x2] at y2
              have z0 := eA_b hG hdo b 0 (i := k) (by omega)
              have z1 := eA_b hG hdo b 1 (i := k) (by omega)
              have z2 := eA_b hG hdo b 2 (i := k) (by omega)
              have hkd : (k : Int) < d.length := by omega
              have c1 := chosen_mem (pickI b k) (show -wr ≤ wr by omega)
              have c2 := chosen_mem (pickI b ((k + 1 : Nat) : Int)) (show -wr ≤ wr by omega)
              have g1 := gG 0 1 0 k
              have g2 := gG 1 2 1 k
              unfold fBox at g1 g2
              have k0 : (k : Int) + (0 : Nat) = k := by omega
              have k1 : (k : Int) + (1 : Nat) = ((k + 1 : Nat) : Int) := by omega
              rw [k0] at g1
              rw [k1] at g2
              have w1 : IntKind.i64.wrap (eA c d b 0 k - eA c d b 1 k) = eA c d b 0 k - eA c d b 1 k := wrap_in (by omega) (by omega)
              have w2 : IntKind.i64.wrap (eA c d b 1 k - eA c d b 2 k) = eA c d b 1 k - eA c d b 2 k := wrap_in (by omega) (by omega)
              have w3 : IntKind.i64.wrap (eA c d b 0 k - eA c d b 1 k + chosen (-wr) wr (pickI b k)) = G 0 1 0 k := by rw [g1]; exact wrap_in (by omega) (by omega)
              have w4 : IntKind.i64.wrap (eA c d b 1 k - eA c d b 2 k + chosen (-wr) wr (pickI b ((k + 1 : Nat) : Int))) = G 1 2 1 k := by rw [g2]; exact wrap_in (by omega) (by omega)
              have w5 : IntKind.i64.wrap (0 - wr) = -wr := by rw [wrap_in (by omega) (by omega)]; omega
              have w6 : IntKind.i64.wrap ((k : Int) + 1) = ((k + 1 : Nat) : Int) := by rw [wrap_in (by omega) (by omega)]; omega
              have i1 : (-9223372036854775808 ≤ -wr ∧ -wr ≤ 9223372036854775807) ∧ -9223372036854775808 ≤ wr ∧ wr ≤ 9223372036854775807 := by omega
              have k8 : (k + 1) * 8 ≤ 140737488355328 := by omega
              simp (decide := true) (maxSteps := 4000000) only [go_sem, Nat.reduceAdd, Nat.reduceSub, Nat.reduceMul, Nat.reduceDiv, Nat.reduceMod, Nat.reduceLT, Nat.reduceLeDiff, Nat.reduceEqDiff, Nat.reduceBEq, Nat.reduceBNe, Nat.reduceGT, Int.reduceAdd, Int.reduceSub, Int.reduceMul, Int.reduceNeg, Int.reduceLT, Int.reduceLE, Int.reduceEq, Int.reduceNe, Int.reduceBEq, Int.reduceBNe, Int.reduceToNat, Int.reduceGT, Int.reduceGE, ↓reduceIte, decide_true, decide_false, eq_self, Nat.mul_one, Nat.zero_mul, Nat.one_mul, Int.le_refl, Nat.le_refl, Int.cast_ofNat_Int, hlt3, y0, y1, y2, hkd, w1, w2, w3, w4, w5, w6, i1, rB, hb, mapR_len, k8, Nat.mul_one]
              refine hI3 _ ⟨k + 1, by omega⟩ (by simp only; omega) ?_
              simp (decide := true) (maxSteps := 4000000) only [go_sem, Nat.reduceAdd, Nat.reduceSub, Nat.reduceMul, Nat.reduceDiv, Nat.reduceMod, Nat.reduceLT, Nat.reduceLeDiff, Nat.reduceEqDiff, Nat.reduceBEq, Nat.reduceBNe, Nat.reduceGT, Int.reduceAdd, Int.reduceSub, Int.reduceMul, Int.reduceNeg, Int.reduceLT, Int.reduceLE, Int.reduceEq, Int.reduceNe, Int.reduceBEq, Int.reduceBNe, Int.reduceToNat, Int.reduceGT, Int.reduceGE, ↓reduceIte, decide_true, decide_false, eq_self, Nat.mul_one, Nat.zero_mul, Nat.one_mul, Int.le_refl, Nat.le_refl, Int.cast_ofNat_Int, w6, mapR_app]
              first | done | trace_state
            · have hkn : k = n := by omega
              subst hkn
              have hk0 : ¬ k = 0 := by omega
              have u0 : unI [.int .i64 0] = some [0] := by have := unI_eq [0]; exact this
              simp (decide := true) (maxSteps := 4000000) only [go_sem, Nat.reduceAdd, Nat.reduceSub, Nat.reduceMul, Nat.reduceDiv, Nat.reduceMod, Nat.reduceLT, Nat.reduceLeDiff, Nat.reduceEqDiff, Nat.reduceBEq, Nat.reduceBNe, Nat.reduceGT, Int.reduceAdd, Int.reduceSub, Int.reduceMul, Int.reduceNeg, Int.reduceLT, Int.reduceLE, Int.reduceEq, Int.reduceNe, Int.reduceBEq, Int.reduceBNe, Int.reduceToNat, Int.reduceGT, Int.reduceGE, ↓reduceIte, decide_true, decide_false, eq_self, Nat.mul_one, Nat.zero_mul, Nat.one_mul, Int.le_refl, Nat.le_refl, Int.cast_ofNat_Int, hlt3]
              refine hQ3 _ _ ?_
              have d3 : (0 : Int) < 3 ∧ (3 : Int) ≤ 9223372036854775807 := by decide
              have d4 : (0 : Int) < 1000 ∧ (1000 : Int) ≤ 9223372036854775807 := by decide
              have d5 : (0 : Int) < (k : Int) - 1 ∧ (k : Int) - 1 ≤ 9223372036854775807 := by omega
              have v1 : IntKind.i64.wrap ((k : Int) - 1) = (k : Int) - 1 := wrap_in (by omega) (by omega)
              have v2 : IntKind.i64.wrap (1 + (m3 : Int)) = ((m3 + 1 : Nat) : Int) := by rw [wrap_in (by omega) (by omega)]; omega
              rw [hR] at hJ hc hmem
              simp only at hJ hc hmem
              have v3 : IntKind.i64.wrap (r1 - r0) = r1 - r0 := wrap_in (by omega) (by omega)
              have v4 : IntKind.i64.wrap (2 * (r1 - r0)) = 2 * (r1 - r0) := wrap_in (by omega) (by omega)
              have v5 : IntKind.i64.wrap (8 * wr) = 8 * wr := wrap_in (by omega) (by omega)
              have v6 : IntKind.i64.wrap (2 * (r1 - r0) + 8 * wr) = 2 * (r1 - r0) + 8 * wr := wrap_in (by omega) (by omega)
              have v7 : IntKind.i64.wrap (2 * (r1 - r0) + 8 * wr + 1) = 2 * (r1 - r0) + 8 * wr + 1 := wrap_in (by omega) (by omega)
              have v8 : IntKind.i64.wrap (2 * (r1 - r0) + 8 * wr + 1 + m4) = J := by rw [hJ]; exact wrap_in (by omega) (by omega)
              have hHG : ∀ x y o i, H x y o i = G x y o i + (jmp who (m3 + 1) J x i - jmp who (m3 + 1) J y i) := fun x y o i => by rw [gH, gG]
              have hGb : ∀ x y o i, i < k → -50000000 ≤ G x y o i ∧ G x y o i ≤ 50000000 := fun x y o i hi => by rw [gG]; exact fb' x y o i hi
              simp (decide := true) (maxSteps := 4000000) only [go_sem, Nat.reduceAdd, Nat.reduceSub, Nat.reduceMul, Nat.reduceDiv, Nat.reduceMod, Nat.reduceLT, Nat.reduceLeDiff, Nat.reduceEqDiff, Nat.reduceBEq, Nat.reduceBNe, Nat.reduceGT, Int.reduceAdd, Int.reduceSub, Int.reduceMul, Int.reduceNeg, Int.reduceLT, Int.reduceLE, Int.reduceEq, Int.reduceNe, Int.reduceBEq, Int.reduceBNe, Int.reduceToNat, Int.reduceGT, Int.reduceGE, ↓reduceIte, decide_true, decide_false, eq_self, Nat.mul_one, Nat.zero_mul, Nat.one_mul, Int.le_refl, Nat.le_refl, Int.cast_ofNat_Int, aggP, allO, hk0, hR, u0, rB, hb, d3, d4, d5, hwho, hm3, hm4, v1, v2, v3, v4, v5, v6, v7, v8]
              refine pwpC_loopU (A := { i : Nat // i ≤ k }) [11, 12, 20, 25, 26, 27] (fun i => [(30, .t (.int .i64 i.1)), (28, .own (ints ((List.range i.1).map (H 0 1 0))) i.1 6), (29, .own (ints ((List.range i.1).map (H 1 2 1))) i.1 7)]) (fun i => [(6, .tok i.1 3), (7, .tok i.1 3)]) (fun i => k - i.1) ⟨0, by omega⟩ (by decide) (fun _ => by rfl) ?_ fun Q4 hQ4 ⟨i, hi⟩ I4 hI4 => ?_
              · simp (decide := true) (maxSteps := 4000000) only [go_sem, Nat.reduceAdd, Nat.reduceSub, Nat.reduceMul, Nat.reduceDiv, Nat.reduceMod, Nat.reduceLT, Nat.reduceLeDiff, Nat.reduceEqDiff, Nat.reduceBEq, Nat.reduceBNe, Nat.reduceGT, Int.reduceAdd, Int.reduceSub, Int.reduceMul, Int.reduceNeg, Int.reduceLT, Int.reduceLE, Int.reduceEq, Int.reduceNe, Int.reduceBEq, Int.reduceBNe, Int.reduceToNat, Int.reduceGT, Int.reduceGE, ↓reduceIte, decide_true, decide_false, eq_self, Nat.mul_one, Nat.zero_mul, Nat.one_mul, Int.le_refl, Nat.le_refl, Int.cast_ofNat_Int, List.map_nil, show ints [] = [] from rfl, cells_self]
                first | done | trace_state
              · by_cases hlt4 : (i : Int) < k
                · have hG : ∀ (f : Nat → Int), ((List.range k).map f)[i]? = some (f i) := fun f => by rw [List.getElem?_map, List.getElem?_range (by omega)]; rfl
                  have y0 := ints_at (hG (G 0 1 0))
                  have y1 := ints_at (hG (G 1 2 1))
                  rw [Nat.mul_one] at y0 y1
                  have b0 := hGb 0 1 0 i (by omega)
                  have b1 := hGb 1 2 1 i (by omega)
                  have h0 := hHG 0 1 0 i
                  have h1 := hHG 1 2 1 i
                  have w6 : IntKind.i64.wrap ((i : Int) + 1) = ((i + 1 : Nat) : Int) := by rw [wrap_in (by omega) (by omega)]; omega
                  have k8 : (i + 1) * 8 ≤ 140737488355328 := by omega
                  by_cases hon : (i : Int) ≥ ((m3 + 1 : Nat) : Int)
                  · rcases (by omega : who = 0 ∨ who = 1 ∨ who = 2) with rfl | rfl | rfl
                    · have h0 : IntKind.i64.wrap (G 0 1 0 i + J) = H 0 1 0 i := by rw [h0]; unfold jmp; rw [if_pos ⟨rfl, by omega⟩, if_neg (by omega), wrap_in (by omega) (by omega)]; omega
                      have h1 : H 1 2 1 i = G 1 2 1 i := by rw [h1]; unfold jmp; rw [if_neg (by omega), if_neg (by omega)]; omega
                      simp (decide := true) (maxSteps := 4000000) only [go_sem, Nat.reduceAdd, Nat.reduceSub, Nat.reduceMul, Nat.reduceDiv, Nat.reduceMod, Nat.reduceLT, Nat.reduceLeDiff, Nat.reduceEqDiff, Nat.reduceBEq, Nat.reduceBNe, Nat.reduceGT, Int.reduceAdd, Int.reduceSub, Int.reduceMul, Int.reduceNeg, Int.reduceLT, Int.reduceLE, Int.reduceEq, Int.reduceNe, Int.reduceBEq, Int.reduceBNe, Int.reduceToNat, Int.reduceGT, Int.reduceGE, ↓reduceIte, decide_true, decide_false, eq_self, Nat.mul_one, Nat.zero_mul, Nat.one_mul, Int.le_refl, Nat.le_refl, Int.cast_ofNat_Int, hlt4, y0, y1, hon, h0, mapR_len, k8, Nat.mul_one]
                      refine hI4 _ ⟨i + 1, by omega⟩ (by simp only; omega) ?_
                      simp (decide := true) (maxSteps := 4000000) only [go_sem, Nat.reduceAdd, Nat.reduceSub, Nat.reduceMul, Nat.reduceDiv, Nat.reduceMod, Nat.reduceLT, Nat.reduceLeDiff, Nat.reduceEqDiff, Nat.reduceBEq, Nat.reduceBNe, Nat.reduceGT, Int.reduceAdd, Int.reduceSub, Int.reduceMul, Int.reduceNeg, Int.reduceLT, Int.reduceLE, Int.reduceEq, Int.reduceNe, Int.reduceBEq, Int.reduceBNe, Int.reduceToNat, Int.reduceGT, Int.reduceGE, ↓reduceIte, decide_true, decide_false, eq_self, Nat.mul_one, Nat.zero_mul, Nat.one_mul, Int.le_refl, Nat.le_refl, Int.cast_ofNat_Int, w6, mapR_app, h1]
                      first | done | trace_state
                    · have h0 : IntKind.i64.wrap (G 0 1 0 i - J) = H 0 1 0 i := by rw [h0]; unfold jmp; rw [if_neg (by omega), if_pos ⟨rfl, by omega⟩, wrap_in (by omega) (by omega)]; omega
                      have h1 : IntKind.i64.wrap (G 1 2 1 i + J) = H 1 2 1 i := by rw [h1]; unfold jmp; rw [if_pos ⟨rfl, by omega⟩, if_neg (by omega), wrap_in (by omega) (by omega)]; omega
                      simp (decide := true) (maxSteps := 4000000) only [go_sem, Nat.reduceAdd, Nat.reduceSub, Nat.reduceMul, Nat.reduceDiv, Nat.reduceMod, Nat.reduceLT, Nat.reduceLeDiff, Nat.reduceEqDiff, Nat.reduceBEq, Nat.reduceBNe, Nat.reduceGT, Int.reduceAdd, Int.reduceSub, Int.reduceMul, Int.reduceNeg, Int.reduceLT, Int.reduceLE, Int.reduceEq, Int.reduceNe, Int.reduceBEq, Int.reduceBNe, Int.reduceToNat, Int.reduceGT, Int.reduceGE, ↓reduceIte, decide_true, decide_false, eq_self, Nat.mul_one, Nat.zero_mul, Nat.one_mul, Int.le_refl, Nat.le_refl, Int.cast_ofNat_Int, hlt4, y0, y1, hon, h0, h1, mapR_len, k8, Nat.mul_one]
                      refine hI4 _ ⟨i + 1, by omega⟩ (by simp only; omega) ?_
                      simp (decide := true) (maxSteps := 4000000) only [go_sem, Nat.reduceAdd, Nat.reduceSub, Nat.reduceMul, Nat.reduceDiv, Nat.reduceMod, Nat.reduceLT, Nat.reduceLeDiff, Nat.reduceEqDiff, Nat.reduceBEq, Nat.reduceBNe, Nat.reduceGT, Int.reduceAdd, Int.reduceSub, Int.reduceMul, Int.reduceNeg, Int.reduceLT, Int.reduceLE, Int.reduceEq, Int.reduceNe, Int.reduceBEq, Int.reduceBNe, Int.reduceToNat, Int.reduceGT, Int.reduceGE, ↓reduceIte, decide_true, decide_false, eq_self, Nat.mul_one, Nat.zero_mul, Nat.one_mul, Int.le_refl, Nat.le_refl, Int.cast_ofNat_Int, w6, mapR_app]
                      first | done | trace_state
                    · have h0 : H 0 1 0 i = G 0 1 0 i := by rw [h0]; unfold jmp; rw [if_neg (by omega), if_neg (by omega)]; omega
                      have h1 : IntKind.i64.wrap (G 1 2 1 i - J) = H 1 2 1 i := by rw [h1]; unfold jmp; rw [if_neg (by omega), if_pos ⟨rfl, by omega⟩, wrap_in (by omega) (by omega)]; omega
                      simp (decide := true) (maxSteps := 4000000) only [go_sem, Nat.reduceAdd, Nat.reduceSub, Nat.reduceMul, Nat.reduceDiv, Nat.reduceMod, Nat.reduceLT, Nat.reduceLeDiff, Nat.reduceEqDiff, Nat.reduceBEq, Nat.reduceBNe, Nat.reduceGT, Int.reduceAdd, Int.reduceSub, Int.reduceMul, Int.reduceNeg, Int.reduceLT, Int.reduceLE, Int.reduceEq, Int.reduceNe, Int.reduceBEq, Int.reduceBNe, Int.reduceToNat, Int.reduceGT, Int.reduceGE, ↓reduceIte, decide_true, decide_false, eq_self, Nat.mul_one, Nat.zero_mul, Nat.one_mul, Int.le_refl, Nat.le_refl, Int.cast_ofNat_Int, hlt4, y0, y1, hon, h1, mapR_len, k8, Nat.mul_one]
                      refine hI4 _ ⟨i + 1, by omega⟩ (by simp only; omega) ?_
                      simp (decide := true) (maxSteps := 4000000) only [go_sem, Nat.reduceAdd, Nat.reduceSub, Nat.reduceMul, Nat.reduceDiv, Nat.reduceMod, Nat.reduceLT, Nat.reduceLeDiff, Nat.reduceEqDiff, Nat.reduceBEq, Nat.reduceBNe, Nat.reduceGT, Int.reduceAdd, Int.reduceSub, Int.reduceMul, Int.reduceNeg, Int.reduceLT, Int.reduceLE, Int.reduceEq, Int.reduceNe, Int.reduceBEq, Int.reduceBNe, Int.reduceToNat, Int.reduceGT, Int.reduceGE, ↓reduceIte, decide_true, decide_false, eq_self, Nat.mul_one, Nat.zero_mul, Nat.one_mul, Int.le_refl, Nat.le_refl, Int.cast_ofNat_Int, w6, mapR_app, h0]
                      first | done | trace_state
                  · have h0 : H 0 1 0 i = G 0 1 0 i := by rw [h0]; unfold jmp; rw [if_neg (by omega), if_neg (by omega)]; omega
                    have h1 : H 1 2 1 i = G 1 2 1 i := by rw [h1]; unfold jmp; rw [if_neg (by omega), if_neg (by omega)]; omega
                    simp (decide := true) (maxSteps := 4000000) only [go_sem, Nat.reduceAdd, Nat.reduceSub, Nat.reduceMul, Nat.reduceDiv, Nat.reduceMod, Nat.reduceLT, Nat.reduceLeDiff, Nat.reduceEqDiff, Nat.reduceBEq, Nat.reduceBNe, Nat.reduceGT, Int.reduceAdd, Int.reduceSub, Int.reduceMul, Int.reduceNeg, Int.reduceLT, Int.reduceLE, Int.reduceEq, Int.reduceNe, Int.reduceBEq, Int.reduceBNe, Int.reduceToNat, Int.reduceGT, Int.reduceGE, ↓reduceIte, decide_true, decide_false, eq_self, Nat.mul_one, Nat.zero_mul, Nat.one_mul, Int.le_refl, Nat.le_refl, Int.cast_ofNat_Int, hlt4, y0, y1, hon, mapR_len, k8, Nat.mul_one]
                    refine hI4 _ ⟨i + 1, by omega⟩ (by simp only; omega) ?_
                    simp (decide := true) (maxSteps := 4000000) only [go_sem, Nat.reduceAdd, Nat.reduceSub, Nat.reduceMul, Nat.reduceDiv, Nat.reduceMod, Nat.reduceLT, Nat.reduceLeDiff, Nat.reduceEqDiff, Nat.reduceBEq, Nat.reduceBNe, Nat.reduceGT, Int.reduceAdd, Int.reduceSub, Int.reduceMul, Int.reduceNeg, Int.reduceLT, Int.reduceLE, Int.reduceEq, Int.reduceNe, Int.reduceBEq, Int.reduceBNe, Int.reduceToNat, Int.reduceGT, Int.reduceGE, ↓reduceIte, decide_true, decide_false, eq_self, Nat.mul_one, Nat.zero_mul, Nat.one_mul, Int.le_refl, Nat.le_refl, Int.cast_ofNat_Int, w6, mapR_app, h0, h1]
                    first | done | trace_state
                · have hik : i = k := by omega
                  subst hik
                  have e1 : plc PW 0 L1 ≥ 0 := q1
                  have e2 : plc 0 0 L1 < 0 := by omega
                  have e3 : inB ((m3 + 1 : Nat) : Int) ((m3 + 1 : Nat) : Int) ((i : Int) - 1) = true := inB_iff.2 (by omega)
                  have hon : m3 + 1 < i := by omega
                  have hne : (([.agg [.sl (ints ((List.range i).map (H 0 1 0))) i false, .sl (ints ((List.range i).map (H 1 2 1))) i false, .int .i64 wr, .int .i64 r0, .int .i64 r1, .int .i64 r0, .int .i64 r1, .int .i64 r0, .int .i64 r1]] : List TV) = [.agg [.sl (ints ((List.range i).map (G 0 1 0))) i false, .sl (ints ((List.range i).map (G 1 2 1))) i false, .int .i64 wr, .int .i64 r0, .int .i64 r1, .int .i64 r0, .int .i64 r1, .int .i64 r0, .int .i64 r1]]) = False := by
                    refine eq_false fun h => ?_
                    simp only [List.cons.injEq, TV.agg.injEq, TV.sl.injEq, and_true] at h
                    have a0 := congrArg (fun l => tempAt l (m3 + 1)) (ints_inj h.1)
                    have a1 := congrArg (fun l => tempAt l (m3 + 1)) (ints_inj h.2)
                    simp only [tempAt_map hon] at a0 a1
                    rw [hHG] at a0 a1
                    rcases (by omega : who = 0 ∨ who = 1 ∨ who = 2) with rfl | rfl | rfl
                    · unfold jmp at a0; rw [if_pos ⟨rfl, Nat.le_refl _⟩, if_neg (by omega)] at a0; omega
                    · unfold jmp at a0; rw [if_neg (by omega), if_pos ⟨rfl, Nat.le_refl _⟩] at a0; omega
                    · unfold jmp at a1; rw [if_neg (by omega), if_pos ⟨rfl, Nat.le_refl _⟩] at a1; omega
                  simp (decide := true) (maxSteps := 4000000) only [go_sem, Nat.reduceAdd, Nat.reduceSub, Nat.reduceMul, Nat.reduceDiv, Nat.reduceMod, Nat.reduceLT, Nat.reduceLeDiff, Nat.reduceEqDiff, Nat.reduceBEq, Nat.reduceBNe, Nat.reduceGT, Int.reduceAdd, Int.reduceSub, Int.reduceMul, Int.reduceNeg, Int.reduceLT, Int.reduceLE, Int.reduceEq, Int.reduceNe, Int.reduceBEq, Int.reduceBNe, Int.reduceToNat, Int.reduceGT, Int.reduceGE, ↓reduceIte, decide_true, decide_false, eq_self, Nat.mul_one, Nat.zero_mul, Nat.one_mul, Int.le_refl, Nat.le_refl, Int.cast_ofNat_Int, hlt4]
                  refine hQ4 _ _ ?_
                  rcases (by omega : who = 0 ∨ who = 1 ∨ who = 2) with rfl | rfl | rfl
                  · have e4 : (1 : Int) = PW := hPW
                    subst e4
                    simp (decide := true) (maxSteps := 4000000) only [go_sem, Nat.reduceAdd, Nat.reduceSub, Nat.reduceMul, Nat.reduceDiv, Nat.reduceMod, Nat.reduceLT, Nat.reduceLeDiff, Nat.reduceEqDiff, Nat.reduceBEq, Nat.reduceBNe, Nat.reduceGT, Int.reduceAdd, Int.reduceSub, Int.reduceMul, Int.reduceNeg, Int.reduceLT, Int.reduceLE, Int.reduceEq, Int.reduceNe, Int.reduceBEq, Int.reduceBNe, Int.reduceToNat, Int.reduceGT, Int.reduceGE, ↓reduceIte, decide_true, decide_false, eq_self, Nat.mul_one, Nat.zero_mul, Nat.one_mul, Int.le_refl, Nat.le_refl, Int.cast_ofNat_Int, aggP, allO, hk0, hne, e1, e2, e3, v1]
                  · have e4 : (2 : Int) = PW := hPW
                    subst e4
                    simp (decide := true) (maxSteps := 4000000) only [go_sem, Nat.reduceAdd, Nat.reduceSub, Nat.reduceMul, Nat.reduceDiv, Nat.reduceMod, Nat.reduceLT, Nat.reduceLeDiff, Nat.reduceEqDiff, Nat.reduceBEq, Nat.reduceBNe, Nat.reduceGT, Int.reduceAdd, Int.reduceSub, Int.reduceMul, Int.reduceNeg, Int.reduceLT, Int.reduceLE, Int.reduceEq, Int.reduceNe, Int.reduceBEq, Int.reduceBNe, Int.reduceToNat, Int.reduceGT, Int.reduceGE, ↓reduceIte, decide_true, decide_false, eq_self, Nat.mul_one, Nat.zero_mul, Nat.one_mul, Int.le_refl, Nat.le_refl, Int.cast_ofNat_Int, aggP, allO, hk0, hne, e1, e2, e3, v1]
                  · have e4 : (4 : Int) = PW := hPW
                    subst e4
                    simp (decide := true) (maxSteps := 4000000) only [go_sem, Nat.reduceAdd, Nat.reduceSub, Nat.reduceMul, Nat.reduceDiv, Nat.reduceMod, Nat.reduceLT, Nat.reduceLeDiff, Nat.reduceEqDiff, Nat.reduceBEq, Nat.reduceBNe, Nat.reduceGT, Int.reduceAdd, Int.reduceSub, Int.reduceMul, Int.reduceNeg, Int.reduceLT, Int.reduceLE, Int.reduceEq, Int.reduceNe, Int.reduceBEq, Int.reduceBNe, Int.reduceToNat, Int.reduceGT, Int.reduceGE, ↓reduceIte, decide_true, decide_false, eq_self, Nat.mul_one, Nat.zero_mul, Nat.one_mul, Int.le_refl, Nat.le_refl, Int.cast_ofNat_Int, aggP, allO, hk0, hne, e1, e2, e3, v1]
end Go.Proofs.Ytadkjjnnnkfalaa

/- Part TB. -/
namespace Go.Proofs.Ytadkjjnnnkfalaa
open Go.RowKit Go.Pm Go.Oc Go.Oh Go.Os Go.Ok
set_option maxRecDepth 100000
set_option linter.unusedVariables false

theorem TopBox_c (c : Ck) {tT tR : TV} (hT : IsRow ic tT c.temps) (hR : IsRow Span.cs tR c.rates) (h1 : c.temps.length ≤ 17592186044415) (h2 : c.rates.length ≤ 9000000000000) {d : List Span} {sD : TV} (hD : IsRow Span.cs sD d) (h3 : d.length ≤ 9000000000000) (w0 : Int) {b : List Int} {u : TV} (hu : IsRow ic u b) (hb : b.length ≤ 9223372036854775806) :
    PCalls Try.prog 4 [c.t tT tR, sD, .int .i64 w0, u] (.bool true) := by
  cases hok : ckOk c with
  | false => exact TopBoxBad_c c hT hR hD h1 (by omega) (by omega) (.inl hok) w0 u
  | true =>
    cases hdo : daysOk c d with
    | false => exact TopBoxBad_c c hT hR hD h1 (by omega) (by omega) (.inr hdo) w0 u
    | true =>
      have hG := ckOk_good hok
      have hn0 := hG.n0
      have hrl := hG.rl
      have hd' := daysOk_iff hdo
      obtain ⟨fT, rfl⟩ := hT.ne (by omega)
      obtain ⟨fR, rfl⟩ := hR.ne (by omega)
      obtain ⟨fD, rfl⟩ := hD.ne (by omega)
      rw [ic_ints]
      obtain ⟨n, hn⟩ : ∃ n : Nat, min (d.length : Int) 20 = n := ⟨min d.length 20, by omega⟩
      by_cases hc : 2 ≤ n ∧ -100000 ≤ (rAt c d n).lo ∧ (rAt c d n).hi ≤ 100000
      · exact TopBoxOn_c c fT fR fD hok hdo w0 b hu hb n hn hc
      · exact TopBoxOff_c c fT fR fD hok hdo w0 b hu hb n hn hc
end Go.Proofs.Ytadkjjnnnkfalaa

/- Part Tx0. -/
namespace Go.Proofs.Ytadkjjnnnkfalaa
open Go.RowKit Go.Pm Go.Oc Go.Oh Go.Os
set_option maxRecDepth 100000
set_option linter.unusedVariables false

theorem cSlice {k : Nat} {t e : TypeId} {cs : List TV} (hu : Program.underlying Try.prog t = some (.slice e)) (h : cellsOk Try.prog (k + 1) t cs) : ∃ x, cs = [x] ∧ cellsOk Try.prog (k + 1) t [x] := by
  have h' := h
  unfold cellsOk at h'
  rw [hu] at h'
  rcases h' with h' | ⟨rows, full, h', _⟩
  · exact ⟨_, h', by rw [← h']; exact h⟩
  · exact ⟨_, h', by rw [← h']; exact h⟩
theorem cInt {k : Nat} {cs : List TV} (h : cellsOk Try.prog (k + 1) 3 cs) : ∃ n, cs = [.int .i64 n] ∧ -9223372036854775808 ≤ n ∧ n ≤ 9223372036854775807 := cellsOk_i64 (by kernel_rfl) h
theorem cBool {k : Nat} {cs : List TV} (h : cellsOk Try.prog (k + 1) 4 cs) : ∃ b, cs = [.bool b] := cellsOk_boolT (by kernel_rfl) h
theorem cSpan {k : Nat} {cs : List TV} (h : cellsOk Try.prog (k + 2) 29 cs) : ∃ s : Span, cs = s.cs ∧ (-9223372036854775808 ≤ s.lo ∧ s.lo ≤ 9223372036854775807) ∧ -9223372036854775808 ≤ s.hi ∧ s.hi ≤ 9223372036854775807 := by
  have h := cellsOk_tys (ts := [3, 3]) (by kernel_rfl) h
  obtain ⟨_, r, rfl, h1, h⟩ := seqOk_cons h
  obtain ⟨_, r, rfl, h2, h⟩ := seqOk_cons h
  cases seqOk_nil h
  obtain ⟨a, rfl, ha⟩ := cInt h1
  obtain ⟨b, rfl, hb⟩ := cInt h2
  exact ⟨⟨a, b⟩, rfl, ha, hb⟩
theorem cInts {x : TV} {k : Nat} (h : cellsOk Try.prog (k + 2) 39 [x]) : ∃ l : List Int, IsRow ic x l ∧ l.length ≤ 17592186044415 ∧ ∀ n ∈ l, -9223372036854775808 ≤ n ∧ n ≤ 9223372036854775807 := by
  obtain ⟨l, h1, h2, h3, _⟩ := cellsOk_row (e := 3) (c := ic) (p := fun n => -9223372036854775808 ≤ n ∧ n ≤ 9223372036854775807) (by kernel_rfl) (fun cs hc => cInt hc) h
  rw [show Program.bytesOf Try.prog 3 = 8 by kernel_rfl] at h3
  unfold reachBytes at h3
  exact ⟨l, h1, by omega, h2⟩
theorem cSpans {x : TV} {k : Nat} (h : cellsOk Try.prog (k + 3) 23 [x]) : ∃ l : List Span, IsRow Span.cs x l ∧ l.length ≤ 9000000000000 ∧ ∀ s ∈ l, (-9223372036854775808 ≤ s.lo ∧ s.lo ≤ 9223372036854775807) ∧ -9223372036854775808 ≤ s.hi ∧ s.hi ≤ 9223372036854775807 := by
  obtain ⟨l, h1, h2, h3, _⟩ := cellsOk_row (e := 29) (c := Span.cs) (p := fun s : Span => (-9223372036854775808 ≤ s.lo ∧ s.lo ≤ 9223372036854775807) ∧ -9223372036854775808 ≤ s.hi ∧ s.hi ≤ 9223372036854775807) (by kernel_rfl) (fun cs hc => cSpan hc) h
  rw [show Program.bytesOf Try.prog 29 = 16 by kernel_rfl] at h3
  unfold reachBytes at h3
  exact ⟨l, h1, by omega, h2⟩
theorem cPair {k : Nat} {t : TypeId} (ht : tysOf Try.prog t = some [3, 3]) {cs : List TV} (h : cellsOk Try.prog (k + 2) t cs) : ∃ a b : Int, cs = [.int .i64 a, .int .i64 b] ∧ (-9223372036854775808 ≤ a ∧ a ≤ 9223372036854775807) ∧ -9223372036854775808 ≤ b ∧ b ≤ 9223372036854775807 := by
  have h := cellsOk_tys ht h
  obtain ⟨_, r, rfl, h1, h⟩ := seqOk_cons h
  obtain ⟨_, r, rfl, h2, h⟩ := seqOk_cons h
  cases seqOk_nil h
  obtain ⟨a, rfl, ha⟩ := cInt h1
  obtain ⟨b, rfl, hb⟩ := cInt h2
  exact ⟨a, b, rfl, ha, hb⟩
theorem cTriple {k : Nat} {t : TypeId} (ht : tysOf Try.prog t = some [3, 3, 3]) {cs : List TV} (h : cellsOk Try.prog (k + 2) t cs) : ∃ a b c : Int, cs = [.int .i64 a, .int .i64 b, .int .i64 c] := by
  have h := cellsOk_tys ht h
  obtain ⟨_, r, rfl, h1, h⟩ := seqOk_cons h
  obtain ⟨_, r, rfl, h2, h⟩ := seqOk_cons h
  obtain ⟨_, r, rfl, h3, h⟩ := seqOk_cons h
  cases seqOk_nil h
  obtain ⟨a, rfl, _⟩ := cInt h1
  obtain ⟨b, rfl, _⟩ := cInt h2
  obtain ⟨c, rfl, _⟩ := cInt h3
  exact ⟨a, b, c, rfl⟩
theorem xInt {x : TV} (h : argOk Try.prog 3 x) : ∃ n, x = .int .i64 n ∧ -9223372036854775808 ≤ n ∧ n ≤ 9223372036854775807 := argOk_i64 (by kernel_rfl) h
theorem xInts {x : TV} (h : argOk Try.prog 39 x) : ∃ l : List Int, IsRow ic x l ∧ l.length ≤ 17592186044415 ∧ ∀ n ∈ l, -9223372036854775808 ≤ n ∧ n ≤ 9223372036854775807 := cInts (argOk_sl (e := 3) (by kernel_rfl) h)
theorem xSpans {x : TV} (h : argOk Try.prog 23 x) : ∃ l : List Span, IsRow Span.cs x l ∧ l.length ≤ 9000000000000 ∧ ∀ s ∈ l, (-9223372036854775808 ≤ s.lo ∧ s.lo ≤ 9223372036854775807) ∧ -9223372036854775808 ≤ s.hi ∧ s.hi ≤ 9223372036854775807 := cSpans (argOk_sl (e := 29) (by kernel_rfl) h)
end Go.Proofs.Ytadkjjnnnkfalaa

/- Part TBx. -/
namespace Go.Proofs.Ytadkjjnnnkfalaa
open Go.RowKit Go.Pm Go.Oc Go.Oh Go.Os Go.Ok
set_option maxRecDepth 100000
set_option linter.unusedVariables false

theorem xClock {x : TV} (h : argOk Try.prog 64 x) : ∃ (c : Ck) (tT tR : TV), x = c.t tT tR ∧ IsRow ic tT c.temps ∧ IsRow Span.cs tR c.rates ∧ c.temps.length ≤ 17592186044415 ∧ c.rates.length ≤ 9000000000000 := by
  obtain ⟨cs, rfl, h'⟩ := argOk_agg (ts := [39, 23, 29, 29]) (by kernel_rfl) h
  have h := cellsOk_tys (ts := [39, 23, 29, 29]) (by kernel_rfl) h'
  obtain ⟨_, r, rfl, h1, h⟩ := seqOk_cons h
  obtain ⟨_, r, rfl, h2, h⟩ := seqOk_cons h
  obtain ⟨_, r, rfl, h3, h⟩ := seqOk_cons h
  obtain ⟨_, r, rfl, h4, h⟩ := seqOk_cons h
  cases seqOk_nil h
  obtain ⟨s1, rfl, h1⟩ := cSlice (e := 3) (by kernel_rfl) h1
  obtain ⟨l1, hl1, ll1, _⟩ := cInts h1
  obtain ⟨s2, rfl, h2⟩ := cSlice (e := 29) (by kernel_rfl) h2
  obtain ⟨l2, hl2, ll2, _⟩ := cSpans h2
  obtain ⟨a, rfl, _⟩ := cSpan h3
  obtain ⟨e, rfl, _⟩ := cSpan h4
  exact ⟨⟨l1, l2, a, e⟩, s1, s2, rfl, hl1, hl2, ll1, ll2⟩
end Go.Proofs.Ytadkjjnnnkfalaa
