/- What the claim leans on, text 5. -/
import Derived.Test.YtnoahnbjdapieaaDoorC4
set_option linter.unusedSimpArgs false
set_option linter.unusedVariables false

/- Part Iy. -/
namespace Go.Oc
open Go Go.Pm
set_option maxRecDepth 100000
theorem allB_b {t : Int} {l : List Int} {n : Int} (m : Nat) : (allB t l n m).all prB = true := by
  rw [List.all_eq_true]
  intro p hp
  unfold allB allA at hp
  obtain ⟨b, _, hp⟩ := List.mem_flatMap.1 hp
  obtain ⟨a, _, hp⟩ := List.mem_filterMap.1 hp
  exact List.all_eq_true.1 (prsP_b ..) p (candK_some hp).1.1
end Go.Oc
namespace Go.Proofs.YtnoahnbjdapieaaDoor
open Go.RowKit Go.Pm Go.Oc
set_option maxRecDepth 100000
set_option linter.unusedVariables false
set_option maxHeartbeats 4000000

theorem iCompound_c (t : Int) {l : List Int} {s : TV} (hl : IsRow ic s l) (hll : l.length ≤ 17592186044415) (n : Int) : PCalls Tryd.prog 19 [.agg [.int .i64 t, s], .int .i64 n] (.tup [(compE t l n).1.tv, .int .i64 (compE t l n).2]) := by
  have rI := rowI_is hl
  unfold rowL at rI
  have hop : openE t l n 20000 = if headOk t l = false then 10 else if inB n 1 20000 = false then 11 else 0 := rfl
  refine pcalls_by Tryd.mixes spX3_ok (fn := Tryd.f19) Tryd.func19 rfl (by kernel_rfl) (by show 2 ≤ _; decide) ?_
  unfold compE
  cases h1 : headOk t l with
  | false =>
    rw [h1] at hop
    simp only [if_true] at hop
    simp (decide := true) (maxSteps := 4000000) only [go_sem, Nat.reduceAdd, Nat.reduceSub, Nat.reduceMul, Nat.reduceDiv, Nat.reduceMod, Nat.reduceLT, Nat.reduceLeDiff, Nat.reduceEqDiff, Nat.reduceBEq, Nat.reduceBNe, Nat.reduceGT, Int.reduceAdd, Int.reduceSub, Int.reduceMul, Int.reduceNeg, Int.reduceLT, Int.reduceLE, Int.reduceEq, Int.reduceNe, Int.reduceBEq, Int.reduceBNe, Int.reduceToNat, Int.reduceGT, Int.reduceGE, ↓reduceIte, decide_true, decide_false, eq_self, Nat.mul_one, Nat.zero_mul, Nat.one_mul, Int.le_refl, Nat.le_refl, Int.cast_ofNat_Int, Tryd.f19, rI, hll, hop, Pr.tv, Pr.cs]
  | true =>
    rw [h1] at hop
    simp only [Bool.true_eq_false, if_false] at hop
    cases h2 : inB n 1 20000 with
    | false =>
      rw [h2] at hop
      simp only [if_true] at hop
      simp (decide := true) (maxSteps := 4000000) only [go_sem, Nat.reduceAdd, Nat.reduceSub, Nat.reduceMul, Nat.reduceDiv, Nat.reduceMod, Nat.reduceLT, Nat.reduceLeDiff, Nat.reduceEqDiff, Nat.reduceBEq, Nat.reduceBNe, Nat.reduceGT, Int.reduceAdd, Int.reduceSub, Int.reduceMul, Int.reduceNeg, Int.reduceLT, Int.reduceLE, Int.reduceEq, Int.reduceNe, Int.reduceBEq, Int.reduceBNe, Int.reduceToNat, Int.reduceGT, Int.reduceGE, ↓reduceIte, decide_true, decide_false, eq_self, Nat.mul_one, Nat.zero_mul, Nat.one_mul, Int.le_refl, Nat.le_refl, Int.cast_ofNat_Int, Tryd.f19, rI, hll, hop, Pr.tv, Pr.cs]
    | true =>
      rw [h2] at hop
      simp only [Bool.true_eq_false, if_false] at hop
      have hh := headOk_iff.1 h1
      have hn := inB_iff.1 h2
      obtain ⟨f, rfl⟩ := hl.ne (by omega)
      rw [ic_ints] at rI ⊢
      simp only [unI_eq, if_true] at rI
      simp (decide := true) (maxSteps := 4000000) only [go_sem, Nat.reduceAdd, Nat.reduceSub, Nat.reduceMul, Nat.reduceDiv, Nat.reduceMod, Nat.reduceLT, Nat.reduceLeDiff, Nat.reduceEqDiff, Nat.reduceBEq, Nat.reduceBNe, Nat.reduceGT, Int.reduceAdd, Int.reduceSub, Int.reduceMul, Int.reduceNeg, Int.reduceLT, Int.reduceLE, Int.reduceEq, Int.reduceNe, Int.reduceBEq, Int.reduceBNe, Int.reduceToNat, Int.reduceGT, Int.reduceGE, ↓reduceIte, decide_true, decide_false, eq_self, Nat.mul_one, Nat.zero_mul, Nat.one_mul, Int.le_refl, Nat.le_refl, Int.cast_ofNat_Int, Tryd.f19, rI, hll, hop]
      refine pwpC_loopU (A := { b : Nat // b ≤ l.length }) [1, 4, 5, 6, 7, 28] (fun b => [(29, .t (.int .i64 b.1)), (8, .own ((allB t l n b.1).flatMap Pr.cs) (allB t l n b.1).length 3)]) (fun b => [(3, .tok (allB t l n b.1).length 81)]) (fun b => l.length - b.1) ⟨0, by omega⟩ (by decide) (fun _ => by rfl) ?_ fun Q1 hQ1 ⟨b, hb⟩ I1 hI1 => ?_
      · simp (decide := true) (maxSteps := 4000000) only [go_sem, Nat.reduceAdd, Nat.reduceSub, Nat.reduceMul, Nat.reduceDiv, Nat.reduceMod, Nat.reduceLT, Nat.reduceLeDiff, Nat.reduceEqDiff, Nat.reduceBEq, Nat.reduceBNe, Nat.reduceGT, Int.reduceAdd, Int.reduceSub, Int.reduceMul, Int.reduceNeg, Int.reduceLT, Int.reduceLE, Int.reduceEq, Int.reduceNe, Int.reduceBEq, Int.reduceBNe, Int.reduceToNat, Int.reduceGT, Int.reduceGE, ↓reduceIte, decide_true, decide_false, eq_self, Nat.mul_one, Nat.zero_mul, Nat.one_mul, Int.le_refl, Nat.le_refl, Int.cast_ofNat_Int, allB, List.range_zero, List.flatMap_nil, List.length_nil]
        first | done | exact ⟨⟨rfl, rfl⟩, rfl⟩ | exact ⟨rfl, rfl⟩ | rfl
      · by_cases hlt : (b : Int) < l.length
        · have hb1 : IntKind.i64.wrap (b + 1) = ((b + 1 : Nat) : Int) := by rw [wrap_in (by omega) (by omega)]; omega
          simp (decide := true) (maxSteps := 4000000) only [go_sem, Nat.reduceAdd, Nat.reduceSub, Nat.reduceMul, Nat.reduceDiv, Nat.reduceMod, Nat.reduceLT, Nat.reduceLeDiff, Nat.reduceEqDiff, Nat.reduceBEq, Nat.reduceBNe, Nat.reduceGT, Int.reduceAdd, Int.reduceSub, Int.reduceMul, Int.reduceNeg, Int.reduceLT, Int.reduceLE, Int.reduceEq, Int.reduceNe, Int.reduceBEq, Int.reduceBNe, Int.reduceToNat, Int.reduceGT, Int.reduceGE, ↓reduceIte, decide_true, decide_false, eq_self, Nat.mul_one, Nat.zero_mul, Nat.one_mul, Int.le_refl, Nat.le_refl, Int.cast_ofNat_Int, hlt]
          refine pwpC_loopU (A := { a : Nat // a ≤ b }) [1, 4, 5, 6, 7, 9, 28, 29, 32] (fun a => [(33, .t (.int .i64 a.1)), (8, .own ((allTo t l n b a.1).flatMap Pr.cs) (allTo t l n b a.1).length 3)]) (fun a => [(3, .tok (allTo t l n b a.1).length 81)]) (fun a => b - a.1) ⟨0, by omega⟩ (by decide) (fun _ => by rfl) ?_ fun Q2 hQ2 ⟨a, ha⟩ I2 hI2 => ?_
          · simp (decide := true) (maxSteps := 4000000) only [go_sem, Nat.reduceAdd, Nat.reduceSub, Nat.reduceMul, Nat.reduceDiv, Nat.reduceMod, Nat.reduceLT, Nat.reduceLeDiff, Nat.reduceEqDiff, Nat.reduceBEq, Nat.reduceBNe, Nat.reduceGT, Int.reduceAdd, Int.reduceSub, Int.reduceMul, Int.reduceNeg, Int.reduceLT, Int.reduceLE, Int.reduceEq, Int.reduceNe, Int.reduceBEq, Int.reduceBNe, Int.reduceToNat, Int.reduceGT, Int.reduceGE, ↓reduceIte, decide_true, decide_false, eq_self, Nat.mul_one, Nat.zero_mul, Nat.one_mul, Int.le_refl, Nat.le_refl, Int.cast_ofNat_Int, allTo_zero]
            first | done | exact ⟨⟨rfl, rfl⟩, rfl⟩ | exact ⟨rfl, rfl⟩ | rfl
          · by_cases hlt2 : (a : Int) < b
            · have ha1 : IntKind.i64.wrap (a + 1) = ((a + 1 : Nat) : Int) := by rw [wrap_in (by omega) (by omega)]; omega
              have c1 : (0 : Int) ≤ (a : Int) ∧ (a : Int) < l.length := by omega
              have c2 : (0 : Int) ≤ (b : Int) ∧ (b : Int) < l.length := by omega
              have hrow := rowL_is unPrs_eq (rowG_is Pr.cs (candK t l n a b))
              unfold rowL at hrow
              have hpl := prsTo_len t (nthI l a) (nthI l b) n a b 4001
              have hcl : (candK t l n a b).length ≤ 1000000 := by unfold candK prsP; omega
              have hcb : (candK t l n a b).all prB = true := prsP_b ..
              have hsu := allTo_succ t l n b a
              have hmn := bestF_min (candK t l n a b)
              have hbl := allB_len t l n b
              have hal := allA_len t l n b a
              have hbb : b * b ≤ 144 := Nat.mul_le_mul (show b ≤ 12 by omega) (show b ≤ 12 by omega)
              have htl : (allTo t l n b a).length ≤ 1000 := by unfold allTo; rw [List.length_append]; omega
              have hfl := flR_len Pr.cs (n := 4) (fun _ => rfl) (allTo t l n b a)
              have hroom : ((allTo t l n b a).length + 1) * 32 ≤ 140737488355328 := by omega
              cases hm : minL (candK t l n a b) with
              | none =>
                have hc0 : (candK t l n a b).length = 0 := by rw [(minL_none _).1 hm]; rfl
                have hc0' : decide (0 < (candK t l n a b).length) = false := by rw [hc0]; rfl
                rw [hm] at hsu hmn
                simp only [Option.toList, List.append_nil] at hsu
                simp (decide := true) (maxSteps := 4000000) only [go_sem, Nat.reduceAdd, Nat.reduceSub, Nat.reduceMul, Nat.reduceDiv, Nat.reduceMod, Nat.reduceLT, Nat.reduceLeDiff, Nat.reduceEqDiff, Nat.reduceBEq, Nat.reduceBNe, Nat.reduceGT, Int.reduceAdd, Int.reduceSub, Int.reduceMul, Int.reduceNeg, Int.reduceLT, Int.reduceLE, Int.reduceEq, Int.reduceNe, Int.reduceBEq, Int.reduceBNe, Int.reduceToNat, Int.reduceGT, Int.reduceGE, ↓reduceIte, decide_true, decide_false, eq_self, Nat.mul_one, Nat.zero_mul, Nat.one_mul, Int.le_refl, Nat.le_refl, Int.cast_ofNat_Int, hlt2, unI_eq, h1, hn, c1, c2, Int.toNat_natCast, hrow, hcl, hcb, bestV, hmn, hc0', Pr.tv, Pr.cs]
                refine hI2 _ ⟨a + 1, by omega⟩ (by simp only; omega) ?_
                simp (decide := true) (maxSteps := 4000000) only [go_sem, Nat.reduceAdd, Nat.reduceSub, Nat.reduceMul, Nat.reduceDiv, Nat.reduceMod, Nat.reduceLT, Nat.reduceLeDiff, Nat.reduceEqDiff, Nat.reduceBEq, Nat.reduceBNe, Nat.reduceGT, Int.reduceAdd, Int.reduceSub, Int.reduceMul, Int.reduceNeg, Int.reduceLT, Int.reduceLE, Int.reduceEq, Int.reduceNe, Int.reduceBEq, Int.reduceBNe, Int.reduceToNat, Int.reduceGT, Int.reduceGE, ↓reduceIte, decide_true, decide_false, eq_self, Nat.mul_one, Nat.zero_mul, Nat.one_mul, Int.le_refl, Nat.le_refl, Int.cast_ofNat_Int, ha1, hsu]
              | some r =>
                have hc0' : decide (0 < (candK t l n a b).length) = true := by
                  rw [decide_eq_true_eq]
                  rcases Nat.eq_zero_or_pos (candK t l n a b).length with h | h
                  · rw [List.length_eq_zero_iff.1 h] at hm; cases hm
                  · exact h
                rw [hm] at hsu hmn
                simp only [Option.toList] at hsu
                have hcs : (allTo t l n b (a + 1)).flatMap Pr.cs = (allTo t l n b a).flatMap Pr.cs ++ [.int .i64 r.a, .int .i64 r.b, .int .i64 r.x, .int .i64 r.y] := by rw [hsu, List.flatMap_append]; rfl
                have hln : (allTo t l n b (a + 1)).length = (allTo t l n b a).length + 1 := by rw [hsu]; simp
                simp (decide := true) (maxSteps := 4000000) only [go_sem, Nat.reduceAdd, Nat.reduceSub, Nat.reduceMul, Nat.reduceDiv, Nat.reduceMod, Nat.reduceLT, Nat.reduceLeDiff, Nat.reduceEqDiff, Nat.reduceBEq, Nat.reduceBNe, Nat.reduceGT, Int.reduceAdd, Int.reduceSub, Int.reduceMul, Int.reduceNeg, Int.reduceLT, Int.reduceLE, Int.reduceEq, Int.reduceNe, Int.reduceBEq, Int.reduceBNe, Int.reduceToNat, Int.reduceGT, Int.reduceGE, ↓reduceIte, decide_true, decide_false, eq_self, Nat.mul_one, Nat.zero_mul, Nat.one_mul, Int.le_refl, Nat.le_refl, Int.cast_ofNat_Int, hlt2, unI_eq, h1, hn, c1, c2, Int.toNat_natCast, hrow, hcl, hcb, bestV, hmn, hc0', Pr.tv, Pr.cs, hfl, hroom]
                refine hI2 _ ⟨a + 1, by omega⟩ (by simp only; omega) ?_
                simp (decide := true) (maxSteps := 4000000) only [go_sem, Nat.reduceAdd, Nat.reduceSub, Nat.reduceMul, Nat.reduceDiv, Nat.reduceMod, Nat.reduceLT, Nat.reduceLeDiff, Nat.reduceEqDiff, Nat.reduceBEq, Nat.reduceBNe, Nat.reduceGT, Int.reduceAdd, Int.reduceSub, Int.reduceMul, Int.reduceNeg, Int.reduceLT, Int.reduceLE, Int.reduceEq, Int.reduceNe, Int.reduceBEq, Int.reduceBNe, Int.reduceToNat, Int.reduceGT, Int.reduceGE, ↓reduceIte, decide_true, decide_false, eq_self, Nat.mul_one, Nat.zero_mul, Nat.one_mul, Int.le_refl, Nat.le_refl, Int.cast_ofNat_Int, ha1, hcs, hln]
            · have hab : a = b := by omega
              subst hab
              have hnx := allTo_next t l n a
              simp (decide := true) (maxSteps := 4000000) only [go_sem, Nat.reduceAdd, Nat.reduceSub, Nat.reduceMul, Nat.reduceDiv, Nat.reduceMod, Nat.reduceLT, Nat.reduceLeDiff, Nat.reduceEqDiff, Nat.reduceBEq, Nat.reduceBNe, Nat.reduceGT, Int.reduceAdd, Int.reduceSub, Int.reduceMul, Int.reduceNeg, Int.reduceLT, Int.reduceLE, Int.reduceEq, Int.reduceNe, Int.reduceBEq, Int.reduceBNe, Int.reduceToNat, Int.reduceGT, Int.reduceGE, ↓reduceIte, decide_true, decide_false, eq_self, Nat.mul_one, Nat.zero_mul, Nat.one_mul, Int.le_refl, Nat.le_refl, Int.cast_ofNat_Int, hlt2]
              refine hQ2 _ _ ?_
              simp (decide := true) (maxSteps := 4000000) only [go_sem, Nat.reduceAdd, Nat.reduceSub, Nat.reduceMul, Nat.reduceDiv, Nat.reduceMod, Nat.reduceLT, Nat.reduceLeDiff, Nat.reduceEqDiff, Nat.reduceBEq, Nat.reduceBNe, Nat.reduceGT, Int.reduceAdd, Int.reduceSub, Int.reduceMul, Int.reduceNeg, Int.reduceLT, Int.reduceLE, Int.reduceEq, Int.reduceNe, Int.reduceBEq, Int.reduceBNe, Int.reduceToNat, Int.reduceGT, Int.reduceGE, ↓reduceIte, decide_true, decide_false, eq_self, Nat.mul_one, Nat.zero_mul, Nat.one_mul, Int.le_refl, Nat.le_refl, Int.cast_ofNat_Int]
              refine hI1 _ ⟨a + 1, by omega⟩ (by simp only; omega) ?_
              simp (decide := true) (maxSteps := 4000000) only [go_sem, Nat.reduceAdd, Nat.reduceSub, Nat.reduceMul, Nat.reduceDiv, Nat.reduceMod, Nat.reduceLT, Nat.reduceLeDiff, Nat.reduceEqDiff, Nat.reduceBEq, Nat.reduceBNe, Nat.reduceGT, Int.reduceAdd, Int.reduceSub, Int.reduceMul, Int.reduceNeg, Int.reduceLT, Int.reduceLE, Int.reduceEq, Int.reduceNe, Int.reduceBEq, Int.reduceBNe, Int.reduceToNat, Int.reduceGT, Int.reduceGE, ↓reduceIte, decide_true, decide_false, eq_self, Nat.mul_one, Nat.zero_mul, Nat.one_mul, Int.le_refl, Nat.le_refl, Int.cast_ofNat_Int, hb1, hnx]
        · have hbe : b = l.length := by omega
          subst hbe
          have hbl := allB_len t l n l.length
          have hbb : l.length * l.length ≤ 144 := Nat.mul_le_mul (show l.length ≤ 12 by omega) (show l.length ≤ 12 by omega)
          have hcl : (allB t l n l.length).length ≤ 1000000 := by omega
          have hcb : (allB t l n l.length).all prB = true := allB_b _
          have hcp := comp_prog t l n
          have er : rowG Pr.cs (allB t l n l.length) = if (allB t l n l.length).length = 0 then .nilSl else .sl ((allB t l n l.length).flatMap Pr.cs) (allB t l n l.length).length false := rfl
          have hrow := rowL_is unPrs_eq (rowG_is Pr.cs (allB t l n l.length))
          unfold rowL at hrow
          rw [er] at hrow
          simp (decide := true) (maxSteps := 4000000) only [go_sem, Nat.reduceAdd, Nat.reduceSub, Nat.reduceMul, Nat.reduceDiv, Nat.reduceMod, Nat.reduceLT, Nat.reduceLeDiff, Nat.reduceEqDiff, Nat.reduceBEq, Nat.reduceBNe, Nat.reduceGT, Int.reduceAdd, Int.reduceSub, Int.reduceMul, Int.reduceNeg, Int.reduceLT, Int.reduceLE, Int.reduceEq, Int.reduceNe, Int.reduceBEq, Int.reduceBNe, Int.reduceToNat, Int.reduceGT, Int.reduceGE, ↓reduceIte, decide_true, decide_false, eq_self, Nat.mul_one, Nat.zero_mul, Nat.one_mul, Int.le_refl, Nat.le_refl, Int.cast_ofNat_Int, hlt]
          refine hQ1 _ _ ?_
          cases hc : compP t l n with
          | none =>
            rw [hc] at hcp
            have h0 : (allB t l n l.length).length = 0 := by rw [(bestF_none _ _).1 hcp]; rfl
            have hc0' : decide (0 < (allB t l n l.length).length) = false := by rw [h0]; rfl
            simp (decide := true) (maxSteps := 4000000) only [go_sem, Nat.reduceAdd, Nat.reduceSub, Nat.reduceMul, Nat.reduceDiv, Nat.reduceMod, Nat.reduceLT, Nat.reduceLeDiff, Nat.reduceEqDiff, Nat.reduceBEq, Nat.reduceBNe, Nat.reduceGT, Int.reduceAdd, Int.reduceSub, Int.reduceMul, Int.reduceNeg, Int.reduceLT, Int.reduceLE, Int.reduceEq, Int.reduceNe, Int.reduceBEq, Int.reduceBNe, Int.reduceToNat, Int.reduceGT, Int.reduceGE, ↓reduceIte, decide_true, decide_false, eq_self, Nat.mul_one, Nat.zero_mul, Nat.one_mul, Int.le_refl, Nat.le_refl, Int.cast_ofNat_Int, hrow, hcl, hcb, bestV, hcp, hc0', Pr.tv, Pr.cs]
          | some r =>
            rw [hc] at hcp
            have hc0' : decide (0 < (allB t l n l.length).length) = true := by
              rw [decide_eq_true_eq]
              rcases Nat.eq_zero_or_pos (allB t l n l.length).length with h | h
              · rw [List.length_eq_zero_iff.1 h] at hcp; cases hcp
              · exact h
            simp (decide := true) (maxSteps := 4000000) only [go_sem, Nat.reduceAdd, Nat.reduceSub, Nat.reduceMul, Nat.reduceDiv, Nat.reduceMod, Nat.reduceLT, Nat.reduceLeDiff, Nat.reduceEqDiff, Nat.reduceBEq, Nat.reduceBNe, Nat.reduceGT, Int.reduceAdd, Int.reduceSub, Int.reduceMul, Int.reduceNeg, Int.reduceLT, Int.reduceLE, Int.reduceEq, Int.reduceNe, Int.reduceBEq, Int.reduceBNe, Int.reduceToNat, Int.reduceGT, Int.reduceGE, ↓reduceIte, decide_true, decide_false, eq_self, Nat.mul_one, Nat.zero_mul, Nat.one_mul, Int.le_refl, Nat.le_refl, Int.cast_ofNat_Int, hrow, hcl, hcb, bestV, hcp, hc0', Pr.tv, Pr.cs]
end Go.Proofs.YtnoahnbjdapieaaDoor

/- Part Iz. -/
namespace Go.Oc
open Go Go.Pm
set_option maxRecDepth 100000
def placesTo (all n : Int) (m : Nat) : List Int := (List.range m).map fun k : Nat => placeP all n k
theorem placesTo_succ (all n : Int) (m : Nat) : placesTo all n (m + 1) = placesTo all n m ++ [placeP all n m] := by
  unfold placesTo; rw [List.range_succ, List.map_append]; rfl
theorem placesTo_len (all n : Int) (m : Nat) : (placesTo all n m).length = m := by simp [placesTo]
theorem ints_snoc (l : List Int) (x : Int) : ints (l ++ [x]) = ints l ++ [.int .i64 x] := by simp [ints]
theorem allB0 {t : Int} {l : List Int} (hh : headOk t l = true) {c : Nat} {h : Int} (hx : l[c]? = some h) : 1 ≤ t * h ∧ t * h ≤ 80000 := by
  have hh' := headOk_iff.1 hh
  have hb := head_at hh hx
  have m1 := mulB (a := t) (b := h) (A := 400) (B := 200) (by omega) (by omega) (by omega) (by omega)
  have := Int.mul_pos (show 0 < t by omega) (show 0 < h by omega)
  omega
end Go.Oc
namespace Go.Proofs.YtnoahnbjdapieaaDoor
open Go.RowKit Go.Pm Go.Oc
set_option maxRecDepth 100000
set_option linter.unusedVariables false
set_option maxHeartbeats 4000000

theorem iLine_c {all n k : Int} (hk0 : 0 ≤ k) (hk1 : k ≤ 2000) (hn : 1 ≤ n) (hn2 : n ≤ 2000) (ha : 0 ≤ all) (ha2 : all ≤ 80000) : PCalls Tryd.prog 63 [.int .i64 k, .int .i64 n, .int .i64 all] (.tup [.int .i64 (placeP all n k), .int .i64 (wrongP all n k)]) := by
  have m1 := mulB (a := k) (b := all) (A := 2000) (B := 80000) hk0 ha hk1 ha2
  have w1 : IntKind.i64.wrap (2 * k) = 2 * k := wrap_in (by omega) (by omega)
  have e1 : 2 * k * all = 2 * (k * all) := Int.mul_assoc ..
  have w2 : IntKind.i64.wrap (2 * k * all) = 2 * k * all := wrap_in (by omega) (by omega)
  have w3 : IntKind.i64.wrap (2 * k * all - n) = 2 * k * all - n := wrap_in (by omega) (by omega)
  have w4 : IntKind.i64.wrap (2 * n) = 2 * n := wrap_in (by omega) (by omega)
  have w5 : IntKind.i64.wrap (2 * k * all - n + 2 * n) = 2 * k * all - n + 2 * n := wrap_in (by omega) (by omega)
  have w6 : IntKind.i64.wrap (2 * k * all - n + 2 * n - 1) = 2 * k * all - n + 2 * n - 1 := wrap_in (by omega) (by omega)
  have hlp := line_place (all := all) (n := n) (k := k) (by omega) m1.1
  have hwb := wrong_bound (all := all) (n := n) (k := k) (by omega)
  have hwd : placeP all n k * n - k * all = wrongP all n k := rfl
  have hpb : 0 ≤ placeP all n k ∧ placeP all n k ≤ 320000000 := by
    have h4 : 0 ≤ k * all / n := Int.ediv_nonneg m1.1 (by omega)
    have h5 : k * all / n ≤ k * all := Int.ediv_le_self n m1.1
    unfold placeP; split <;> omega
  have w7 : IntKind.i64.wrap (placeP all n k) = placeP all n k := wrap_in (by omega) (by omega)
  have w8 : IntKind.i64.wrap (placeP all n k * n) = placeP all n k * n := wrap_in (by omega) (by omega)
  have w9 : IntKind.i64.wrap (k * all) = k * all := wrap_in (by omega) (by omega)
  have w10 : IntKind.i64.wrap (wrongP all n k) = wrongP all n k := wrap_in (by omega) (by omega)
  have hn0 : ¬ 2 * n = 0 := by omega
  refine pcalls_by Tryd.mixes noSpec_ok (fn := Tryd.f63) Tryd.func63 rfl (by kernel_rfl) (by show 3 ≤ _; decide) ?_
  simp (decide := true) (maxSteps := 4000000) only [go_sem, Nat.reduceAdd, Nat.reduceSub, Nat.reduceMul, Nat.reduceDiv, Nat.reduceMod, Nat.reduceLT, Nat.reduceLeDiff, Nat.reduceEqDiff, Nat.reduceBEq, Nat.reduceBNe, Nat.reduceGT, Int.reduceAdd, Int.reduceSub, Int.reduceMul, Int.reduceNeg, Int.reduceLT, Int.reduceLE, Int.reduceEq, Int.reduceNe, Int.reduceBEq, Int.reduceBNe, Int.reduceToNat, Int.reduceGT, Int.reduceGE, ↓reduceIte, decide_true, decide_false, eq_self, Nat.mul_one, Nat.zero_mul, Nat.one_mul, Int.le_refl, Nat.le_refl, Int.cast_ofNat_Int, Tryd.f63, w1, w2, w3, w4, w5, w6, hlp, w7, w8, w9, hwd, w10, hn0]
noncomputable def ixLine : List TV → Option TV
  | [.int .i64 k, .int .i64 n, .int .i64 a] => if (0 ≤ k ∧ k ≤ 2000) ∧ (1 ≤ n ∧ n ≤ 2000) ∧ 0 ≤ a ∧ a ≤ 80000 then some (.tup [.int .i64 (placeP a n k), .int .i64 (wrongP a n k)]) else none
  | _ => none
theorem ixLine_ok : ∀ xs r, ixLine xs = some r → PCalls Tryd.prog 63 xs r := by
  intro xs r h
  unfold ixLine at h
  split at h
  · split at h
    · rename_i hc; cases h; exact iLine_c hc.1.1 hc.1.2 hc.2.1.1 hc.2.1.2 hc.2.2.1 hc.2.2.2
    · cases h
  · cases h
attribute [go_sem] ixLine
noncomputable def spZ1 : Pm.Spec := spU3.one 63 ixLine
@[go_sem] theorem spZ1_p (f : FuncId) (xs : List TV) : spZ1.p f xs = Pm.Spec.p (spU3.one 63 ixLine) f xs := rfl
@[go_sem] theorem spZ1_h (f : FuncId) (ps : List PV) (hl : List PO) : spZ1.h f ps hl = Pm.Spec.h (spU3.one 63 ixLine) f ps hl := rfl
@[go_sem] theorem spZ1_fz (f : FuncId) : spZ1.fz f = Pm.Spec.fz (spU3.one 63 ixLine) f := rfl
@[go_sem] theorem spZ1_fr (f : FuncId) : spZ1.fr f = Pm.Spec.fr (spU3.one 63 ixLine) f := rfl
@[go_sem] theorem spZ1_mu (t : TypeId) : spZ1.mu t = Pm.Spec.mu (spU3.one 63 ixLine) t := rfl
theorem spZ1_ok : SpecOk Tryd.prog spZ1 := Spec.one_ok ixLine_ok spU3_ok
theorem iCutH_c {t : Int} {l : List Int} (f : Bool) (hh : headOk t l = true) {n : Int} (hn : 1 ≤ n) (hn2 : n ≤ 2000) {c : Nat} (hc : c < l.length) :
    PCalls Tryd.prog 51 [.agg [.int .i64 t, .sl (ints l) l.length f], .int .i64 c, .int .i64 n] (.tup [.sl (ints (placesTo (t * nthI l c) n n.toNat)) n.toNat false, .int .i64 (faultP (t * nthI l c) n)]) := by
  have hx : l[c]? = some l[c] := List.getElem?_eq_getElem hc
  have hd := ints_at hx
  rw [Nat.mul_one] at hd
  have hb := allB0 hh hx
  have hn' := nthI_at hx
  rw [hn']
  generalize l[c] = h at *
  have hlc : (c : Int) < l.length := by omega
  have w1 : IntKind.i64.wrap (t * h) = t * h := wrap_in (by omega) (by omega)
  obtain ⟨A, hA⟩ : ∃ A, t * h = A := ⟨_, rfl⟩
  rw [hA] at w1 hb ⊢
  obtain ⟨N, hN⟩ := Int.eq_ofNat_of_zero_le (show 0 ≤ n by omega)
  subst hN
  have hA2 : (0 ≤ A ∧ A ≤ 80000) := by omega
  have hfp : faultP A N = faultTo A N N := by unfold faultP; rw [Int.toNat_natCast]
  rw [hfp, Int.toNat_natCast]
  have hc2 : (1 ≤ (N : Int) ∧ (N : Int) ≤ 2000) := by omega
  refine pcalls_by Tryd.mixes spZ1_ok (fn := Tryd.f51) Tryd.func51 rfl (by kernel_rfl) (by show 3 ≤ _; decide) ?_
  simp (decide := true) (maxSteps := 4000000) only [go_sem, Nat.reduceAdd, Nat.reduceSub, Nat.reduceMul, Nat.reduceDiv, Nat.reduceMod, Nat.reduceLT, Nat.reduceLeDiff, Nat.reduceEqDiff, Nat.reduceBEq, Nat.reduceBNe, Nat.reduceGT, Int.reduceAdd, Int.reduceSub, Int.reduceMul, Int.reduceNeg, Int.reduceLT, Int.reduceLE, Int.reduceEq, Int.reduceNe, Int.reduceBEq, Int.reduceBNe, Int.reduceToNat, Int.reduceGT, Int.reduceGE, ↓reduceIte, decide_true, decide_false, eq_self, Nat.mul_one, Nat.zero_mul, Nat.one_mul, Int.le_refl, Nat.le_refl, Int.cast_ofNat_Int, Tryd.f51, hlc, hd, hA, w1]
  refine pwpC_loopU (A := { m : Nat // m ≤ N }) [1, 2, 3, 8, 9, 23] (fun m => [(24, .t (.int .i64 m.1)), (6, .own (ints (placesTo A N m.1)) m.1 2), (7, .t (.int .i64 (faultTo A N m.1)))]) (fun m => [(1, .box [.t (.int .i64 (offTo A N m.1).1), .t (.int .i64 (offTo A N m.1).2)]), (2, .tok m.1 3)]) (fun m => N - m.1) ⟨0, by omega⟩ (by decide) (fun _ => by rfl) ?_ fun Q1 hQ1 ⟨m, hm⟩ I1 hI1 => ?_
  · simp (decide := true) (maxSteps := 4000000) only [go_sem, Nat.reduceAdd, Nat.reduceSub, Nat.reduceMul, Nat.reduceDiv, Nat.reduceMod, Nat.reduceLT, Nat.reduceLeDiff, Nat.reduceEqDiff, Nat.reduceBEq, Nat.reduceBNe, Nat.reduceGT, Int.reduceAdd, Int.reduceSub, Int.reduceMul, Int.reduceNeg, Int.reduceLT, Int.reduceLE, Int.reduceEq, Int.reduceNe, Int.reduceBEq, Int.reduceBNe, Int.reduceToNat, Int.reduceGT, Int.reduceGE, ↓reduceIte, decide_true, decide_false, eq_self, Nat.mul_one, Nat.zero_mul, Nat.one_mul, Int.le_refl, Nat.le_refl, Int.cast_ofNat_Int, placesTo, List.range_zero, List.map_nil, ints, faultTo, offTo, List.foldl_nil]
    first | done | exact ⟨⟨rfl, rfl⟩, rfl⟩ | exact ⟨rfl, rfl⟩ | rfl
  · by_cases hlt : (m : Int) < N
    · have hc1 : IntKind.i64.wrap (m + 1) = ((m + 1 : Nat) : Int) := by rw [wrap_in (by omega) (by omega)]; omega
      have c1 : (0 : Int) ≤ (m : Int) ∧ (m : Int) ≤ 2000 := by omega
      have hos := offTo_spec A N m
      have hou := offTo_succ A N m
      have hfu := faultTo_succ A N m
      have hwb := wrong_bound (all := A) (n := N) (k := m) (by omega)
      have hfb := faultTo_bound (all := A) (n := N) (by omega) m
      obtain ⟨⟨o1, o2⟩, hO⟩ : ∃ o, offTo A N m = o := ⟨_, rfl⟩
      rw [hO] at hos hou
      simp only at hos hou
      obtain ⟨w, hw⟩ : ∃ w, wrongP A N m = w := ⟨_, rfl⟩
      rw [hw] at hou hfu hwb
      have wo1 : IntKind.i64.wrap (o1 + 1) = o1 + 1 := wrap_in (by omega) (by omega)
      have wo2 : IntKind.i64.wrap (o2 + 1) = o2 + 1 := wrap_in (by omega) (by omega)
      have wn : IntKind.i64.wrap (0 - w) = -w := by rw [wrap_in (by omega) (by omega)]; omega
      have hmx : max (max (faultTo A N m) w) (-w) = faultTo A N (m + 1) := by rw [hfu]; unfold absI; omega
      have hil : (ints (placesTo A N m)).length = m := by rw [ints_len, placesTo_len]
      have hroom : (m + 1) * 8 ≤ 140737488355328 := by omega
      have hps : ints (placesTo A N (m + 1)) = ints (placesTo A N m) ++ [.int .i64 (placeP A N m)] := by rw [placesTo_succ, ints_snoc]
      by_cases h1 : w < 0
      · rw [if_pos h1] at hou
        simp (decide := true) (maxSteps := 4000000) only [go_sem, Nat.reduceAdd, Nat.reduceSub, Nat.reduceMul, Nat.reduceDiv, Nat.reduceMod, Nat.reduceLT, Nat.reduceLeDiff, Nat.reduceEqDiff, Nat.reduceBEq, Nat.reduceBNe, Nat.reduceGT, Int.reduceAdd, Int.reduceSub, Int.reduceMul, Int.reduceNeg, Int.reduceLT, Int.reduceLE, Int.reduceEq, Int.reduceNe, Int.reduceBEq, Int.reduceBNe, Int.reduceToNat, Int.reduceGT, Int.reduceGE, ↓reduceIte, decide_true, decide_false, eq_self, Nat.mul_one, Nat.zero_mul, Nat.one_mul, Int.le_refl, Nat.le_refl, Int.cast_ofNat_Int, hlt, c1, hc2, hA2, hw, h1, hO, wo1, wn, hmx, hil, hroom]
        refine hI1 _ ⟨m + 1, by omega⟩ (by simp only; omega) ?_
        simp (decide := true) (maxSteps := 4000000) only [go_sem, Nat.reduceAdd, Nat.reduceSub, Nat.reduceMul, Nat.reduceDiv, Nat.reduceMod, Nat.reduceLT, Nat.reduceLeDiff, Nat.reduceEqDiff, Nat.reduceBEq, Nat.reduceBNe, Nat.reduceGT, Int.reduceAdd, Int.reduceSub, Int.reduceMul, Int.reduceNeg, Int.reduceLT, Int.reduceLE, Int.reduceEq, Int.reduceNe, Int.reduceBEq, Int.reduceBNe, Int.reduceToNat, Int.reduceGT, Int.reduceGE, ↓reduceIte, decide_true, decide_false, eq_self, Nat.mul_one, Nat.zero_mul, Nat.one_mul, Int.le_refl, Nat.le_refl, Int.cast_ofNat_Int, hc1, hps, hou]
      · rw [if_neg h1] at hou
        by_cases h2 : w > 0
        · rw [if_pos h2] at hou
          simp (decide := true) (maxSteps := 4000000) only [go_sem, Nat.reduceAdd, Nat.reduceSub, Nat.reduceMul, Nat.reduceDiv, Nat.reduceMod, Nat.reduceLT, Nat.reduceLeDiff, Nat.reduceEqDiff, Nat.reduceBEq, Nat.reduceBNe, Nat.reduceGT, Int.reduceAdd, Int.reduceSub, Int.reduceMul, Int.reduceNeg, Int.reduceLT, Int.reduceLE, Int.reduceEq, Int.reduceNe, Int.reduceBEq, Int.reduceBNe, Int.reduceToNat, Int.reduceGT, Int.reduceGE, ↓reduceIte, decide_true, decide_false, eq_self, Nat.mul_one, Nat.zero_mul, Nat.one_mul, Int.le_refl, Nat.le_refl, Int.cast_ofNat_Int, hlt, c1, hc2, hA2, hw, h1, h2, hO, wo2, wn, hmx, hil, hroom]
          refine hI1 _ ⟨m + 1, by omega⟩ (by simp only; omega) ?_
          simp (decide := true) (maxSteps := 4000000) only [go_sem, Nat.reduceAdd, Nat.reduceSub, Nat.reduceMul, Nat.reduceDiv, Nat.reduceMod, Nat.reduceLT, Nat.reduceLeDiff, Nat.reduceEqDiff, Nat.reduceBEq, Nat.reduceBNe, Nat.reduceGT, Int.reduceAdd, Int.reduceSub, Int.reduceMul, Int.reduceNeg, Int.reduceLT, Int.reduceLE, Int.reduceEq, Int.reduceNe, Int.reduceBEq, Int.reduceBNe, Int.reduceToNat, Int.reduceGT, Int.reduceGE, ↓reduceIte, decide_true, decide_false, eq_self, Nat.mul_one, Nat.zero_mul, Nat.one_mul, Int.le_refl, Nat.le_refl, Int.cast_ofNat_Int, hc1, hps, hou]
        · rw [if_neg h2] at hou
          simp (decide := true) (maxSteps := 4000000) only [go_sem, Nat.reduceAdd, Nat.reduceSub, Nat.reduceMul, Nat.reduceDiv, Nat.reduceMod, Nat.reduceLT, Nat.reduceLeDiff, Nat.reduceEqDiff, Nat.reduceBEq, Nat.reduceBNe, Nat.reduceGT, Int.reduceAdd, Int.reduceSub, Int.reduceMul, Int.reduceNeg, Int.reduceLT, Int.reduceLE, Int.reduceEq, Int.reduceNe, Int.reduceBEq, Int.reduceBNe, Int.reduceToNat, Int.reduceGT, Int.reduceGE, ↓reduceIte, decide_true, decide_false, eq_self, Nat.mul_one, Nat.zero_mul, Nat.one_mul, Int.le_refl, Nat.le_refl, Int.cast_ofNat_Int, hlt, c1, hc2, hA2, hw, h1, h2, hO, wn, hmx, hil, hroom]
          refine hI1 _ ⟨m + 1, by omega⟩ (by simp only; omega) ?_
          simp (decide := true) (maxSteps := 4000000) only [go_sem, Nat.reduceAdd, Nat.reduceSub, Nat.reduceMul, Nat.reduceDiv, Nat.reduceMod, Nat.reduceLT, Nat.reduceLeDiff, Nat.reduceEqDiff, Nat.reduceBEq, Nat.reduceBNe, Nat.reduceGT, Int.reduceAdd, Int.reduceSub, Int.reduceMul, Int.reduceNeg, Int.reduceLT, Int.reduceLE, Int.reduceEq, Int.reduceNe, Int.reduceBEq, Int.reduceBNe, Int.reduceToNat, Int.reduceGT, Int.reduceGE, ↓reduceIte, decide_true, decide_false, eq_self, Nat.mul_one, Nat.zero_mul, Nat.one_mul, Int.le_refl, Nat.le_refl, Int.cast_ofNat_Int, hc1, hps, hou, hO]
    · have hme : m = N := by omega
      subst hme
      have hos := offTo_spec A m m
      have hm0 : ¬ m = 0 := by omega
      simp (decide := true) (maxSteps := 4000000) only [go_sem, Nat.reduceAdd, Nat.reduceSub, Nat.reduceMul, Nat.reduceDiv, Nat.reduceMod, Nat.reduceLT, Nat.reduceLeDiff, Nat.reduceEqDiff, Nat.reduceBEq, Nat.reduceBNe, Nat.reduceGT, Int.reduceAdd, Int.reduceSub, Int.reduceMul, Int.reduceNeg, Int.reduceLT, Int.reduceLE, Int.reduceEq, Int.reduceNe, Int.reduceBEq, Int.reduceBNe, Int.reduceToNat, Int.reduceGT, Int.reduceGE, ↓reduceIte, decide_true, decide_false, eq_self, Nat.mul_one, Nat.zero_mul, Nat.one_mul, Int.le_refl, Nat.le_refl, Int.cast_ofNat_Int, hlt]
      refine hQ1 _ _ ?_
      obtain ⟨⟨o1, o2⟩, hO⟩ : ∃ o, offTo A m m = o := ⟨_, rfl⟩
      rw [hO] at hos
      simp only at hos
      cases h1 : (o1 == 0 && o2 == 0) with
      | true =>
        simp only [Bool.and_eq_true, beq_iff_eq] at h1
        have hz := hos.2.2.2 h1
        obtain ⟨rfl, rfl⟩ := h1
        simp (decide := true) (maxSteps := 4000000) only [go_sem, Nat.reduceAdd, Nat.reduceSub, Nat.reduceMul, Nat.reduceDiv, Nat.reduceMod, Nat.reduceLT, Nat.reduceLeDiff, Nat.reduceEqDiff, Nat.reduceBEq, Nat.reduceBNe, Nat.reduceGT, Int.reduceAdd, Int.reduceSub, Int.reduceMul, Int.reduceNeg, Int.reduceLT, Int.reduceLE, Int.reduceEq, Int.reduceNe, Int.reduceBEq, Int.reduceBNe, Int.reduceToNat, Int.reduceGT, Int.reduceGE, ↓reduceIte, decide_true, decide_false, eq_self, Nat.mul_one, Nat.zero_mul, Nat.one_mul, Int.le_refl, Nat.le_refl, Int.cast_ofNat_Int, hO, hz, hm0]
      | false =>
        simp (decide := true) (maxSteps := 4000000) only [go_sem, Nat.reduceAdd, Nat.reduceSub, Nat.reduceMul, Nat.reduceDiv, Nat.reduceMod, Nat.reduceLT, Nat.reduceLeDiff, Nat.reduceEqDiff, Nat.reduceBEq, Nat.reduceBNe, Nat.reduceGT, Int.reduceAdd, Int.reduceSub, Int.reduceMul, Int.reduceNeg, Int.reduceLT, Int.reduceLE, Int.reduceEq, Int.reduceNe, Int.reduceBEq, Int.reduceBNe, Int.reduceToNat, Int.reduceGT, Int.reduceGE, ↓reduceIte, decide_true, decide_false, eq_self, Nat.mul_one, Nat.zero_mul, Nat.one_mul, Int.le_refl, Nat.le_refl, Int.cast_ofNat_Int, hO, h1, hm0]
noncomputable def ixCutH : List TV → Option TV
  | [.agg [.int .i64 t, .sl cs m f], .int .i64 c, .int .i64 n] => match unI cs with
    | some l => if m = l.length ∧ headOk t l = true ∧ (1 ≤ n ∧ n ≤ 2000) ∧ 0 ≤ c ∧ c < l.length then some (.tup [.sl (ints (placesTo (t * nthI l c) n n.toNat)) n.toNat false, .int .i64 (faultP (t * nthI l c) n)]) else none
    | none => none
  | _ => none
theorem ixCutH_ok : ∀ xs r, ixCutH xs = some r → PCalls Tryd.prog 51 xs r := by
  intro xs r h
  unfold ixCutH at h
  split at h
  · rename_i t cs m f c n
    split at h
    · rename_i l hl
      split at h
      · rename_i hc; cases h
        obtain ⟨rfl, h0, h1, h2⟩ := hc
        have e := unI_some hl
        rw [ic_ints] at e
        subst e
        have := iCutH_c f h0 h1.1 h1.2 (c := c.toNat) (by omega)
        rwa [Int.toNat_of_nonneg h2.1] at this
      · cases h
    · cases h
  · cases h
attribute [go_sem] ixCutH
theorem iEngr_c {t : Int} {l : List Int} (f : Bool) (hh : headOk t l = true) {n : Int} (hn : 1 ≤ n) (hn2 : n ≤ 2000) {c : Nat} (hc : c < l.length) {F : Int} (hF : 0 ≤ F) (hF2 : F ≤ 2000) :
    PCalls Tryd.prog 52 [.agg [.int .i64 t, .sl (ints l) l.length f], .int .i64 c, .int .i64 n, .int .i64 F] (.int .i64 (engrP F (n * (t * nthI l c)))) := by
  have hx : l[c]? = some l[c] := List.getElem?_eq_getElem hc
  have hd := ints_at hx
  rw [Nat.mul_one] at hd
  have hb := allB0 hh hx
  have hn' := nthI_at hx
  rw [hn']
  have hh' := headOk_iff.1 hh
  generalize l[c] = h at *
  have hlc : (c : Int) < l.length := by omega
  have m1 := mulB (a := n) (b := t) (A := 2000) (B := 400) (by omega) (by omega) (by omega) (by omega)
  have w1 : IntKind.i64.wrap (n * t) = n * t := wrap_in (by omega) (by omega)
  have m2 := mulB (a := n) (b := t * h) (A := 2000) (B := 80000) (by omega) (by omega) (by omega) (by omega)
  have w2 : IntKind.i64.wrap (n * t * h) = n * (t * h) := by rw [Int.mul_assoc]; exact wrap_in (by omega) (by omega)
  have hp := Int.mul_pos (show 0 < n by omega) (show 0 < t * h by omega)
  obtain ⟨A, hA⟩ : ∃ A, n * (t * h) = A := ⟨_, rfl⟩
  rw [hA] at w2 m2 hp ⊢
  have w3 : IntKind.i64.wrap (F * 129600000) = F * 129600000 := wrap_in (by omega) (by omega)
  have w4 : IntKind.i64.wrap (F * 129600000 + A) = F * 129600000 + A := wrap_in (by omega) (by omega)
  have w5 : IntKind.i64.wrap (F * 129600000 + A - 1) = F * 129600000 + A - 1 := wrap_in (by omega) (by omega)
  have hA0 : ¬ A = 0 := by omega
  have hq := Int.ediv_le_self A (show 0 ≤ F * 129600000 + A - 1 by omega)
  have hq0 := Int.ediv_nonneg (show 0 ≤ F * 129600000 + A - 1 by omega) (show 0 ≤ A by omega)
  have w6 : IntKind.i64.wrap ((F * 129600000 + A - 1).tdiv A) = engrP F A := by
    rw [Int.tdiv_eq_ediv_of_nonneg (by omega)]; exact wrap_in (by omega) (by omega)
  refine pcalls_by Tryd.mixes noSpec_ok (fn := Tryd.f52) Tryd.func52 rfl (by kernel_rfl) (by show 4 ≤ _; decide) ?_
  simp (decide := true) (maxSteps := 4000000) only [go_sem, Nat.reduceAdd, Nat.reduceSub, Nat.reduceMul, Nat.reduceDiv, Nat.reduceMod, Nat.reduceLT, Nat.reduceLeDiff, Nat.reduceEqDiff, Nat.reduceBEq, Nat.reduceBNe, Nat.reduceGT, Int.reduceAdd, Int.reduceSub, Int.reduceMul, Int.reduceNeg, Int.reduceLT, Int.reduceLE, Int.reduceEq, Int.reduceNe, Int.reduceBEq, Int.reduceBNe, Int.reduceToNat, Int.reduceGT, Int.reduceGE, ↓reduceIte, decide_true, decide_false, eq_self, Nat.mul_one, Nat.zero_mul, Nat.one_mul, Int.le_refl, Nat.le_refl, Int.cast_ofNat_Int, Tryd.f52, hlc, hd, w1, w2, w3, w4, w5, hA0, w6]
noncomputable def ixEngr : List TV → Option TV
  | [.agg [.int .i64 t, .sl cs m f], .int .i64 c, .int .i64 n, .int .i64 F] => match unI cs with
    | some l => if m = l.length ∧ headOk t l = true ∧ (1 ≤ n ∧ n ≤ 2000) ∧ (0 ≤ c ∧ c < l.length) ∧ 0 ≤ F ∧ F ≤ 2000 then some (.int .i64 (engrP F (n * (t * nthI l c)))) else none
    | none => none
  | _ => none
theorem ixEngr_ok : ∀ xs r, ixEngr xs = some r → PCalls Tryd.prog 52 xs r := by
  intro xs r h
  unfold ixEngr at h
  split at h
  · rename_i t cs m f c n F
    split at h
    · rename_i l hl
      split at h
      · rename_i hc; cases h
        obtain ⟨rfl, h0, h1, h2, h3⟩ := hc
        have e := unI_some hl
        rw [ic_ints] at e
        subst e
        have := iEngr_c f h0 h1.1 h1.2 (c := c.toNat) (by omega) h3.1 h3.2
        rwa [Int.toNat_of_nonneg h2.1] at this
      · cases h
    · cases h
  · cases h
attribute [go_sem] ixEngr
theorem iLess_c (a b c d : Int) : PCalls Tryd.prog 56 [.agg [.int .i64 a, .int .i64 b], .agg [.int .i64 c, .int .i64 d]] (.bool (decide (IntKind.i64.wrap (a * d) < IntKind.i64.wrap (c * b)))) := by
  refine pcalls_by Tryd.mixes noSpec_ok (fn := Tryd.f56) Tryd.func56 rfl (by kernel_rfl) (by show 2 ≤ _; decide) ?_
  simp (decide := true) (maxSteps := 4000000) only [go_sem, Nat.reduceAdd, Nat.reduceSub, Nat.reduceMul, Nat.reduceDiv, Nat.reduceMod, Nat.reduceLT, Nat.reduceLeDiff, Nat.reduceEqDiff, Nat.reduceBEq, Nat.reduceBNe, Nat.reduceGT, Int.reduceAdd, Int.reduceSub, Int.reduceMul, Int.reduceNeg, Int.reduceLT, Int.reduceLE, Int.reduceEq, Int.reduceNe, Int.reduceBEq, Int.reduceBNe, Int.reduceToNat, Int.reduceGT, Int.reduceGE, ↓reduceIte, decide_true, decide_false, eq_self, Nat.mul_one, Nat.zero_mul, Nat.one_mul, Int.le_refl, Nat.le_refl, Int.cast_ofNat_Int, Tryd.f56]
noncomputable def ixLess : List TV → Option TV
  | [.agg [.int .i64 a, .int .i64 b], .agg [.int .i64 c, .int .i64 d]] => some (.bool (decide (IntKind.i64.wrap (a * d) < IntKind.i64.wrap (c * b))))
  | _ => none
theorem ixLess_ok : ∀ xs r, ixLess xs = some r → PCalls Tryd.prog 56 xs r := by
  intro xs r h
  unfold ixLess at h
  split at h
  · cases h; exact iLess_c _ _ _ _
  · cases h
attribute [go_sem] ixLess
noncomputable def spZ2 : Pm.Spec := ((spU3.one 51 ixCutH).one 52 ixEngr).one 56 ixLess
@[go_sem] theorem spZ2_p (f : FuncId) (xs : List TV) : spZ2.p f xs = Pm.Spec.p (((spU3.one 51 ixCutH).one 52 ixEngr).one 56 ixLess) f xs := rfl
@[go_sem] theorem spZ2_h (f : FuncId) (ps : List PV) (hl : List PO) : spZ2.h f ps hl = Pm.Spec.h (((spU3.one 51 ixCutH).one 52 ixEngr).one 56 ixLess) f ps hl := rfl
@[go_sem] theorem spZ2_fz (f : FuncId) : spZ2.fz f = Pm.Spec.fz (((spU3.one 51 ixCutH).one 52 ixEngr).one 56 ixLess) f := rfl
@[go_sem] theorem spZ2_fr (f : FuncId) : spZ2.fr f = Pm.Spec.fr (((spU3.one 51 ixCutH).one 52 ixEngr).one 56 ixLess) f := rfl
@[go_sem] theorem spZ2_mu (t : TypeId) : spZ2.mu t = Pm.Spec.mu (((spU3.one 51 ixCutH).one 52 ixEngr).one 56 ixLess) t := rfl
theorem spZ2_ok : SpecOk Tryd.prog spZ2 := Spec.one_ok ixLess_ok (Spec.one_ok ixEngr_ok (Spec.one_ok ixCutH_ok spU3_ok))
end Go.Proofs.YtnoahnbjdapieaaDoor

/- Part Ic. -/
namespace Go.Oc
open Go Go.Pm
set_option maxRecDepth 100000
def badW (x : Int) : Bool := !inB x 10 200
def idxBad (l : List Int) : Int := (fsTo (fun i => if badW (nthI l i) then some (i : Int) else none) l.length).getD (-1)
theorem stockOk1_iff {st : List Int} : stockOk1 st = true ↔ (2 ≤ st.length ∧ st.length ≤ 10) ∧ ∀ x ∈ st, 10 ≤ x ∧ x ≤ 200 := by
  simp only [stockOk1, Bool.and_eq_true, inB_iff, List.all_eq_true]
  constructor
  · rintro ⟨h, h2⟩; exact ⟨by omega, h2⟩
  · rintro ⟨h, h2⟩; exact ⟨by omega, h2⟩
/-- The best circle before the k-th one, its fault and its holes, as the program has them. -/
def bS (t : Int) (l : List Int) (n : Int) : Nat → Int × Int × Int
  | 0 => (0, 0, 0)
  | k + 1 => ((bestK t l n k).1, (bestK t l n k).2, nthI l (bestK t l n k).1)
theorem bS_first (t : Int) (l : List Int) (n : Int) {k : Nat} (h : k = 0) {x : Int} (hx : nthI l k = x) : bS t l n (k + 1) = ((k : Int), faultP (t * x) n, x) := by
  subst h
  have e : nthI l 0 = x := hx
  show ((0 : Int), faultP (t * nthI l 0) n, nthI l 0) = _
  rw [e]; rfl
theorem bS_next (t : Int) (l : List Int) (n : Int) {k : Nat} (h : ¬ k = 0) {x : Int} (hx : nthI l k = x) : bS t l n (k + 1) = if faultP (t * x) n * (bS t l n k).2.2 < (bS t l n k).2.1 * x then ((k : Int), faultP (t * x) n, x) else bS t l n k := by
  cases k with
  | zero => exact absurd rfl h
  | succ k =>
    have e : bestK t l n (k + 1) = if faultP (t * x) n * nthI l (bestK t l n k).1 < (bestK t l n k).2 * x then (((k + 1 : Nat) : Int), faultP (t * x) n) else bestK t l n k := by rw [bestK, hx]
    show ((bestK t l n (k + 1)).1, (bestK t l n (k + 1)).2, nthI l (bestK t l n (k + 1)).1) = if faultP (t * x) n * nthI l (bestK t l n k).1 < (bestK t l n k).2 * x then (((k + 1 : Nat) : Int), faultP (t * x) n, x) else ((bestK t l n k).1, (bestK t l n k).2, nthI l (bestK t l n k).1)
    rw [e]
    by_cases hc : faultP (t * x) n * nthI l (bestK t l n k).1 < (bestK t l n k).2 * x
    · rw [if_pos hc, if_pos hc]; simp only [hx]
    · rw [if_neg hc, if_neg hc]
theorem bS_bound (t : Int) {l : List Int} {n : Int} (hn : 1 ≤ n) (hn2 : n ≤ 2000) (hl : ∀ k : Nat, k < l.length → 0 ≤ nthI l k ∧ nthI l k ≤ 200) (k : Nat) (hk : k ≤ l.length) : (0 ≤ (bS t l n k).2.1 ∧ (bS t l n k).2.1 ≤ 2000) ∧ 0 ≤ (bS t l n k).2.2 ∧ (bS t l n k).2.2 ≤ 200 := by
  cases k with
  | zero => simp [bS]
  | succ k =>
    obtain ⟨b1, b2, b3⟩ := bestK_spec t l n k
    simp only [bS]
    obtain ⟨j, hj⟩ := Int.eq_ofNat_of_zero_le b1
    have h1 := hl j (by omega)
    rw [← hj] at h1
    have hf := faultTo_bound (all := t * nthI l (bestK t l n k).1) (n := n) (by omega) n.toNat
    rw [b3]
    unfold faultP
    omega
theorem idxBad_iff (l : List Int) : decide (idxBad l ≥ 0) = !(l.all fun n => inB n 10 200) := by
  unfold idxBad
  cases h : fsTo (fun i => if badW (nthI l i) then some (i : Int) else none) l.length with
  | some k =>
    obtain ⟨i, hi, _, hk⟩ := fsTo_some h
    split at hk
    · rename_i hb
      cases hk
      have e : (l.all fun n => inB n 10 200) = false := by
        rw [List.all_eq_false]
        have hx : l[i]? = some l[i] := List.getElem?_eq_getElem hi
        refine ⟨l[i], List.getElem_mem _, ?_⟩
        rw [nthI_at hx] at hb
        simpa [badW] using hb
      rw [e]; simp
    · cases hk
  | none =>
    have e : (l.all fun n => inB n 10 200) = true := by
      rw [List.all_eq_true]
      intro x hx
      obtain ⟨i, hi⟩ := List.mem_iff_getElem?.1 hx
      have := fsTo_none.1 h i (List.getElem?_eq_some_iff.1 hi).1
      rw [nthI_at hi] at this
      split at this
      · cases this
      · rename_i hb; simpa [badW] using hb
    rw [e]; rfl
end Go.Oc
namespace Go.Proofs.YtnoahnbjdapieaaDoor
open Go.RowKit Go.Pm Go.Oc
set_option maxRecDepth 100000
set_option linter.unusedVariables false
set_option maxHeartbeats 4000000

theorem iCut_c (t : Int) {l : List Int} {s : TV} (hl : IsRow ic s l) (hll : l.length ≤ 17592186044415) (c n : Int) : PCalls Tryd.prog 22 [.agg [.int .i64 t, s], .int .i64 c, .int .i64 n] (.tup [rowG ic (cutE t l c n).1, .int .i64 (cutE t l c n).2.1, .int .i64 (cutE t l c n).2.2]) := by
  have rI := rowI_is hl
  unfold rowL at rI
  have hop : openE t l n 2000 = if headOk t l = false then 10 else if inB n 1 2000 = false then 11 else 0 := rfl
  have e0 : rowG ic [] = .nilSl := rfl
  refine pcalls_by Tryd.mixes spZ2_ok (fn := Tryd.f22) Tryd.func22 rfl (by kernel_rfl) (by show 3 ≤ _; decide) ?_
  unfold cutE
  cases h1 : headOk t l with
  | false =>
    rw [h1] at hop
    simp only [if_true] at hop
    simp (decide := true) (maxSteps := 4000000) only [go_sem, Nat.reduceAdd, Nat.reduceSub, Nat.reduceMul, Nat.reduceDiv, Nat.reduceMod, Nat.reduceLT, Nat.reduceLeDiff, Nat.reduceEqDiff, Nat.reduceBEq, Nat.reduceBNe, Nat.reduceGT, Int.reduceAdd, Int.reduceSub, Int.reduceMul, Int.reduceNeg, Int.reduceLT, Int.reduceLE, Int.reduceEq, Int.reduceNe, Int.reduceBEq, Int.reduceBNe, Int.reduceToNat, Int.reduceGT, Int.reduceGE, ↓reduceIte, decide_true, decide_false, eq_self, Nat.mul_one, Nat.zero_mul, Nat.one_mul, Int.le_refl, Nat.le_refl, Int.cast_ofNat_Int, Tryd.f22, rI, hll, hop, e0]
  | true =>
    rw [h1] at hop
    simp only [Bool.true_eq_false, if_false] at hop
    cases h2 : inB n 1 2000 with
    | false =>
      rw [h2] at hop
      simp only [if_true] at hop
      simp (decide := true) (maxSteps := 4000000) only [go_sem, Nat.reduceAdd, Nat.reduceSub, Nat.reduceMul, Nat.reduceDiv, Nat.reduceMod, Nat.reduceLT, Nat.reduceLeDiff, Nat.reduceEqDiff, Nat.reduceBEq, Nat.reduceBNe, Nat.reduceGT, Int.reduceAdd, Int.reduceSub, Int.reduceMul, Int.reduceNeg, Int.reduceLT, Int.reduceLE, Int.reduceEq, Int.reduceNe, Int.reduceBEq, Int.reduceBNe, Int.reduceToNat, Int.reduceGT, Int.reduceGE, ↓reduceIte, decide_true, decide_false, eq_self, Nat.mul_one, Nat.zero_mul, Nat.one_mul, Int.le_refl, Nat.le_refl, Int.cast_ofNat_Int, Tryd.f22, rI, hll, hop, e0]
    | true =>
      rw [h2] at hop
      simp only [Bool.true_eq_false, if_false] at hop
      have hh := headOk_iff.1 h1
      have hn := inB_iff.1 h2
      obtain ⟨f, rfl⟩ := hl.ne (by omega)
      rw [ic_ints] at rI ⊢
      simp only [unI_eq, if_true] at rI
      have wl : IntKind.i64.wrap ((l.length : Int) - 1) = (l.length : Int) - 1 := wrap_in (by omega) (by omega)
      cases h3 : inB c 0 ((l.length : Int) - 1) with
      | false => simp (decide := true) (maxSteps := 4000000) only [go_sem, Nat.reduceAdd, Nat.reduceSub, Nat.reduceMul, Nat.reduceDiv, Nat.reduceMod, Nat.reduceLT, Nat.reduceLeDiff, Nat.reduceEqDiff, Nat.reduceBEq, Nat.reduceBNe, Nat.reduceGT, Int.reduceAdd, Int.reduceSub, Int.reduceMul, Int.reduceNeg, Int.reduceLT, Int.reduceLE, Int.reduceEq, Int.reduceNe, Int.reduceBEq, Int.reduceBNe, Int.reduceToNat, Int.reduceGT, Int.reduceGE, ↓reduceIte, decide_true, decide_false, eq_self, Nat.mul_one, Nat.zero_mul, Nat.one_mul, Int.le_refl, Nat.le_refl, Int.cast_ofNat_Int, Tryd.f22, rI, hll, hop, wl, h3, e0]
      | true =>
        have hc := inB_iff.1 h3
        have hc2 : 0 ≤ c ∧ c < (l.length : Int) := by omega
        have hf := faultTo_bound (all := t * nthI l c) (n := n) (by omega) n.toNat
        have hf2 : 0 ≤ faultP (t * nthI l c) n ∧ faultP (t * nthI l c) n ≤ 2000 := by unfold faultP; omega
        have er : rowG ic ((List.range n.toNat).map fun k : Nat => placeP (t * nthI l c) n k) = .sl (ints (placesTo (t * nthI l c) n n.toNat)) n.toNat false := by
          unfold rowG
          rw [ic_ints, if_neg (by simp; omega)]
          simp [placesTo]
        simp (decide := true) (maxSteps := 4000000) only [go_sem, Nat.reduceAdd, Nat.reduceSub, Nat.reduceMul, Nat.reduceDiv, Nat.reduceMod, Nat.reduceLT, Nat.reduceLeDiff, Nat.reduceEqDiff, Nat.reduceBEq, Nat.reduceBNe, Nat.reduceGT, Int.reduceAdd, Int.reduceSub, Int.reduceMul, Int.reduceNeg, Int.reduceLT, Int.reduceLE, Int.reduceEq, Int.reduceNe, Int.reduceBEq, Int.reduceBNe, Int.reduceToNat, Int.reduceGT, Int.reduceGE, ↓reduceIte, decide_true, decide_false, eq_self, Nat.mul_one, Nat.zero_mul, Nat.one_mul, Int.le_refl, Nat.le_refl, Int.cast_ofNat_Int, Tryd.f22, rI, hll, hop, wl, h3, unI_eq, h1, hn, hc2, hf2, er]
theorem iBestE_c (t : Int) {l : List Int} {s : TV} (hl : IsRow ic s l) (hll : l.length ≤ 17592186044415) (n : Int) : PCalls Tryd.prog 25 [.agg [.int .i64 t, s], .int .i64 n] (.tup [.int .i64 (bestE t l n).1, .int .i64 (bestE t l n).2.1, .int .i64 (bestE t l n).2.2]) := by
  have rI := rowI_is hl
  unfold rowL at rI
  have hop : openE t l n 2000 = if headOk t l = false then 10 else if inB n 1 2000 = false then 11 else 0 := rfl
  refine pcalls_by Tryd.mixes spZ2_ok (fn := Tryd.f25) Tryd.func25 rfl (by kernel_rfl) (by show 2 ≤ _; decide) ?_
  unfold bestE
  cases h1 : headOk t l with
  | false =>
    rw [h1] at hop
    simp only [if_true] at hop
    simp (decide := true) (maxSteps := 4000000) only [go_sem, Nat.reduceAdd, Nat.reduceSub, Nat.reduceMul, Nat.reduceDiv, Nat.reduceMod, Nat.reduceLT, Nat.reduceLeDiff, Nat.reduceEqDiff, Nat.reduceBEq, Nat.reduceBNe, Nat.reduceGT, Int.reduceAdd, Int.reduceSub, Int.reduceMul, Int.reduceNeg, Int.reduceLT, Int.reduceLE, Int.reduceEq, Int.reduceNe, Int.reduceBEq, Int.reduceBNe, Int.reduceToNat, Int.reduceGT, Int.reduceGE, ↓reduceIte, decide_true, decide_false, eq_self, Nat.mul_one, Nat.zero_mul, Nat.one_mul, Int.le_refl, Nat.le_refl, Int.cast_ofNat_Int, Tryd.f25, rI, hll, hop]
  | true =>
    rw [h1] at hop
    simp only [Bool.true_eq_false, if_false] at hop
    cases h2 : inB n 1 2000 with
    | false =>
      rw [h2] at hop
      simp only [if_true] at hop
      simp (decide := true) (maxSteps := 4000000) only [go_sem, Nat.reduceAdd, Nat.reduceSub, Nat.reduceMul, Nat.reduceDiv, Nat.reduceMod, Nat.reduceLT, Nat.reduceLeDiff, Nat.reduceEqDiff, Nat.reduceBEq, Nat.reduceBNe, Nat.reduceGT, Int.reduceAdd, Int.reduceSub, Int.reduceMul, Int.reduceNeg, Int.reduceLT, Int.reduceLE, Int.reduceEq, Int.reduceNe, Int.reduceBEq, Int.reduceBNe, Int.reduceToNat, Int.reduceGT, Int.reduceGE, ↓reduceIte, decide_true, decide_false, eq_self, Nat.mul_one, Nat.zero_mul, Nat.one_mul, Int.le_refl, Nat.le_refl, Int.cast_ofNat_Int, Tryd.f25, rI, hll, hop]
    | true =>
      rw [h2] at hop
      simp only [Bool.true_eq_false, if_false] at hop
      have hh := headOk_iff.1 h1
      have hn := inB_iff.1 h2
      obtain ⟨f, rfl⟩ := hl.ne (by omega)
      rw [ic_ints] at rI ⊢
      simp only [unI_eq, if_true] at rI
      simp (decide := true) (maxSteps := 4000000) only [go_sem, Nat.reduceAdd, Nat.reduceSub, Nat.reduceMul, Nat.reduceDiv, Nat.reduceMod, Nat.reduceLT, Nat.reduceLeDiff, Nat.reduceEqDiff, Nat.reduceBEq, Nat.reduceBNe, Nat.reduceGT, Int.reduceAdd, Int.reduceSub, Int.reduceMul, Int.reduceNeg, Int.reduceLT, Int.reduceLE, Int.reduceEq, Int.reduceNe, Int.reduceBEq, Int.reduceBNe, Int.reduceToNat, Int.reduceGT, Int.reduceGE, ↓reduceIte, decide_true, decide_false, eq_self, Nat.mul_one, Nat.zero_mul, Nat.one_mul, Int.le_refl, Nat.le_refl, Int.cast_ofNat_Int, Tryd.f25, rI, hll, hop]
      have hnl : ∀ k : Nat, k < l.length → 0 ≤ nthI l k ∧ nthI l k ≤ 200 := fun k hk => by
        have e : l[k]? = some l[k] := List.getElem?_eq_getElem hk
        rw [nthI_at e]; have := head_at h1 e; omega
      refine pwpC_loopU (A := { k : Nat // k ≤ l.length }) [1, 5, 6, 7, 8, 9, 26, 27] (fun k => [(28, .t (.int .i64 k.1)), (4, .t (.int .i64 (bS t l n k.1).1))]) (fun k => [(2, .box [.t (.int .i64 (bS t l n k.1).2.1), .t (.int .i64 (bS t l n k.1).2.2)])]) (fun k => l.length - k.1) ⟨0, by omega⟩ (by decide) (fun _ => by rfl) ?_ fun Q1 hQ1 ⟨k, hk⟩ I1 hI1 => ?_
      · simp (decide := true) (maxSteps := 4000000) only [go_sem, Nat.reduceAdd, Nat.reduceSub, Nat.reduceMul, Nat.reduceDiv, Nat.reduceMod, Nat.reduceLT, Nat.reduceLeDiff, Nat.reduceEqDiff, Nat.reduceBEq, Nat.reduceBNe, Nat.reduceGT, Int.reduceAdd, Int.reduceSub, Int.reduceMul, Int.reduceNeg, Int.reduceLT, Int.reduceLE, Int.reduceEq, Int.reduceNe, Int.reduceBEq, Int.reduceBNe, Int.reduceToNat, Int.reduceGT, Int.reduceGE, ↓reduceIte, decide_true, decide_false, eq_self, Nat.mul_one, Nat.zero_mul, Nat.one_mul, Int.le_refl, Nat.le_refl, Int.cast_ofNat_Int, bS]
        first | done | exact ⟨rfl, rfl⟩ | rfl
      · by_cases hlt : (k : Int) < l.length
        · obtain ⟨h, hx⟩ := get_lt hlt
          have hd := ints_at hx
          rw [Nat.mul_one] at hd
          have hnk := nthI_at hx
          have hbk := head_at h1 hx
          have hc1 : IntKind.i64.wrap (k + 1) = ((k + 1 : Nat) : Int) := by rw [wrap_in (by omega) (by omega)]; omega
          have c1 : (0 : Int) ≤ (k : Int) ∧ (k : Int) < (l.length : Int) := by omega
          have hf := faultTo_bound (all := t * h) (n := n) (by omega) n.toNat
          have hf2 : 0 ≤ faultP (t * h) n ∧ faultP (t * h) n ≤ 2000 := by unfold faultP; omega
          have hbd := bS_bound t hn.1 hn.2 hnl k hk
          by_cases hk0 : k = 0
          · have e1 : ((k : Int) == 0) = true := beq_int_t (by omega)
            have hS := bS_first t l n hk0 hnk
            simp (decide := true) (maxSteps := 4000000) only [go_sem, Nat.reduceAdd, Nat.reduceSub, Nat.reduceMul, Nat.reduceDiv, Nat.reduceMod, Nat.reduceLT, Nat.reduceLeDiff, Nat.reduceEqDiff, Nat.reduceBEq, Nat.reduceBNe, Nat.reduceGT, Int.reduceAdd, Int.reduceSub, Int.reduceMul, Int.reduceNeg, Int.reduceLT, Int.reduceLE, Int.reduceEq, Int.reduceNe, Int.reduceBEq, Int.reduceBNe, Int.reduceToNat, Int.reduceGT, Int.reduceGE, ↓reduceIte, decide_true, decide_false, eq_self, Nat.mul_one, Nat.zero_mul, Nat.one_mul, Int.le_refl, Nat.le_refl, Int.cast_ofNat_Int, hlt, hd, unI_eq, h1, hn, c1, hnk, e1]
            refine hI1 _ ⟨k + 1, by omega⟩ (by simp only; omega) ?_
            simp (decide := true) (maxSteps := 4000000) only [go_sem, Nat.reduceAdd, Nat.reduceSub, Nat.reduceMul, Nat.reduceDiv, Nat.reduceMod, Nat.reduceLT, Nat.reduceLeDiff, Nat.reduceEqDiff, Nat.reduceBEq, Nat.reduceBNe, Nat.reduceGT, Int.reduceAdd, Int.reduceSub, Int.reduceMul, Int.reduceNeg, Int.reduceLT, Int.reduceLE, Int.reduceEq, Int.reduceNe, Int.reduceBEq, Int.reduceBNe, Int.reduceToNat, Int.reduceGT, Int.reduceGE, ↓reduceIte, decide_true, decide_false, eq_self, Nat.mul_one, Nat.zero_mul, Nat.one_mul, Int.le_refl, Nat.le_refl, Int.cast_ofNat_Int, hc1, hS]
          · have e1 : ((k : Int) == 0) = false := beq_int_f (by omega)
            have hS := bS_next t l n hk0 hnk
            obtain ⟨⟨X, Y, Z⟩, hX⟩ : ∃ X, bS t l n k = X := ⟨_, rfl⟩
            rw [hX] at hS hbd
            simp only at hS hbd
            obtain ⟨F, hF⟩ : ∃ F, faultP (t * h) n = F := ⟨_, rfl⟩
            rw [hF] at hf2 hS
            have m1 := mulB (a := F) (b := Z) (A := 2000) (B := 200) (by omega) (by omega) (by omega) (by omega)
            have m2 := mulB (a := Y) (b := h) (A := 2000) (B := 200) (by omega) (by omega) (by omega) (by omega)
            have w1 : IntKind.i64.wrap (F * Z) = F * Z := wrap_in (by omega) (by omega)
            have w2 : IntKind.i64.wrap (Y * h) = Y * h := wrap_in (by omega) (by omega)
            by_cases hc : F * Z < Y * h
            · rw [if_pos hc] at hS
              simp (decide := true) (maxSteps := 4000000) only [go_sem, Nat.reduceAdd, Nat.reduceSub, Nat.reduceMul, Nat.reduceDiv, Nat.reduceMod, Nat.reduceLT, Nat.reduceLeDiff, Nat.reduceEqDiff, Nat.reduceBEq, Nat.reduceBNe, Nat.reduceGT, Int.reduceAdd, Int.reduceSub, Int.reduceMul, Int.reduceNeg, Int.reduceLT, Int.reduceLE, Int.reduceEq, Int.reduceNe, Int.reduceBEq, Int.reduceBNe, Int.reduceToNat, Int.reduceGT, Int.reduceGE, ↓reduceIte, decide_true, decide_false, eq_self, Nat.mul_one, Nat.zero_mul, Nat.one_mul, Int.le_refl, Nat.le_refl, Int.cast_ofNat_Int, hlt, hd, unI_eq, h1, hn, c1, hnk, e1, hX, hF, w1, w2, hc]
              refine hI1 _ ⟨k + 1, by omega⟩ (by simp only; omega) ?_
              simp (decide := true) (maxSteps := 4000000) only [go_sem, Nat.reduceAdd, Nat.reduceSub, Nat.reduceMul, Nat.reduceDiv, Nat.reduceMod, Nat.reduceLT, Nat.reduceLeDiff, Nat.reduceEqDiff, Nat.reduceBEq, Nat.reduceBNe, Nat.reduceGT, Int.reduceAdd, Int.reduceSub, Int.reduceMul, Int.reduceNeg, Int.reduceLT, Int.reduceLE, Int.reduceEq, Int.reduceNe, Int.reduceBEq, Int.reduceBNe, Int.reduceToNat, Int.reduceGT, Int.reduceGE, ↓reduceIte, decide_true, decide_false, eq_self, Nat.mul_one, Nat.zero_mul, Nat.one_mul, Int.le_refl, Nat.le_refl, Int.cast_ofNat_Int, hc1, hS]
            · rw [if_neg hc] at hS
              simp (decide := true) (maxSteps := 4000000) only [go_sem, Nat.reduceAdd, Nat.reduceSub, Nat.reduceMul, Nat.reduceDiv, Nat.reduceMod, Nat.reduceLT, Nat.reduceLeDiff, Nat.reduceEqDiff, Nat.reduceBEq, Nat.reduceBNe, Nat.reduceGT, Int.reduceAdd, Int.reduceSub, Int.reduceMul, Int.reduceNeg, Int.reduceLT, Int.reduceLE, Int.reduceEq, Int.reduceNe, Int.reduceBEq, Int.reduceBNe, Int.reduceToNat, Int.reduceGT, Int.reduceGE, ↓reduceIte, decide_true, decide_false, eq_self, Nat.mul_one, Nat.zero_mul, Nat.one_mul, Int.le_refl, Nat.le_refl, Int.cast_ofNat_Int, hlt, hd, unI_eq, h1, hn, c1, hnk, e1, hX, hF, w1, w2, hc]
              refine hI1 _ ⟨k + 1, by omega⟩ (by simp only; omega) ?_
              simp (decide := true) (maxSteps := 4000000) only [go_sem, Nat.reduceAdd, Nat.reduceSub, Nat.reduceMul, Nat.reduceDiv, Nat.reduceMod, Nat.reduceLT, Nat.reduceLeDiff, Nat.reduceEqDiff, Nat.reduceBEq, Nat.reduceBNe, Nat.reduceGT, Int.reduceAdd, Int.reduceSub, Int.reduceMul, Int.reduceNeg, Int.reduceLT, Int.reduceLE, Int.reduceEq, Int.reduceNe, Int.reduceBEq, Int.reduceBNe, Int.reduceToNat, Int.reduceGT, Int.reduceGE, ↓reduceIte, decide_true, decide_false, eq_self, Nat.mul_one, Nat.zero_mul, Nat.one_mul, Int.le_refl, Nat.le_refl, Int.cast_ofNat_Int, hc1, hS]
        · have hke : k = l.length := by omega
          subst hke
          obtain ⟨j, hj⟩ : ∃ j, l.length = j + 1 := ⟨l.length - 1, by omega⟩
          obtain ⟨b1, b2, b3⟩ := bestK_spec t l n (l.length - 1)
          have hbd := bS_bound t hn.1 hn.2 hnl l.length hk
          have hS : bS t l n l.length = ((bestK t l n (l.length - 1)).1, (bestK t l n (l.length - 1)).2, nthI l (bestK t l n (l.length - 1)).1) := by
            rw [hj]; rfl
          rw [hS] at hbd
          simp only at hbd
          have c1 : 0 ≤ (bestK t l n (l.length - 1)).1 ∧ (bestK t l n (l.length - 1)).1 < (l.length : Int) := by omega
          simp (decide := true) (maxSteps := 4000000) only [go_sem, Nat.reduceAdd, Nat.reduceSub, Nat.reduceMul, Nat.reduceDiv, Nat.reduceMod, Nat.reduceLT, Nat.reduceLeDiff, Nat.reduceEqDiff, Nat.reduceBEq, Nat.reduceBNe, Nat.reduceGT, Int.reduceAdd, Int.reduceSub, Int.reduceMul, Int.reduceNeg, Int.reduceLT, Int.reduceLE, Int.reduceEq, Int.reduceNe, Int.reduceBEq, Int.reduceBNe, Int.reduceToNat, Int.reduceGT, Int.reduceGE, ↓reduceIte, decide_true, decide_false, eq_self, Nat.mul_one, Nat.zero_mul, Nat.one_mul, Int.le_refl, Nat.le_refl, Int.cast_ofNat_Int, hlt]
          refine hQ1 _ _ ?_
          simp (decide := true) (maxSteps := 4000000) only [go_sem, Nat.reduceAdd, Nat.reduceSub, Nat.reduceMul, Nat.reduceDiv, Nat.reduceMod, Nat.reduceLT, Nat.reduceLeDiff, Nat.reduceEqDiff, Nat.reduceBEq, Nat.reduceBNe, Nat.reduceGT, Int.reduceAdd, Int.reduceSub, Int.reduceMul, Int.reduceNeg, Int.reduceLT, Int.reduceLE, Int.reduceEq, Int.reduceNe, Int.reduceBEq, Int.reduceBNe, Int.reduceToNat, Int.reduceGT, Int.reduceGE, ↓reduceIte, decide_true, decide_false, eq_self, Nat.mul_one, Nat.zero_mul, Nat.one_mul, Int.le_refl, Nat.le_refl, Int.cast_ofNat_Int, hS, unI_eq, h1, hn, c1, hbd]
end Go.Proofs.YtnoahnbjdapieaaDoor

/- Part Id. -/
namespace Go.Oc
open Go Go.Pm
set_option maxRecDepth 100000
/-- What drives and what is driven, by the first wheels. -/
def drvTo (st : List Int) (p q : Int) (l : List Int) : Nat → Int × Int
  | 0 => (q, p)
  | k + 1 => if k % 2 = 0 then ((drvTo st p q l k).1 * nthI st (nthI l k), (drvTo st p q l k).2) else ((drvTo st p q l k).1, (drvTo st p q l k).2 * nthI st (nthI l k))
theorem drv_all (st : List Int) (p q : Int) {l : List Int} (h : l.length = 2 ∨ l.length = 4) : fitsL st p q l = ((drvTo st p q l l.length).1 == (drvTo st p q l l.length).2) := by
  match l, h with
  | [a, b], _ => rfl
  | [a, b, c, d], _ => simp [fitsL, drvL, drvTo, nthI]
theorem drv_bound {st : List Int} {p q : Int} {l : List Int} (hst : ∀ i : Int, 0 ≤ i → i < st.length → 0 ≤ nthI st i ∧ nthI st i ≤ 200) (hl : ∀ k : Nat, k < l.length → 0 ≤ nthI l k ∧ nthI l k < st.length) (hp : 0 ≤ p ∧ p ≤ 100000) (hq : 0 ≤ q ∧ q ≤ 100000) (k : Nat) (hk : k ≤ l.length) :
    (0 ≤ (drvTo st p q l k).1 ∧ (drvTo st p q l k).1 ≤ 100000 * 200 ^ k) ∧ 0 ≤ (drvTo st p q l k).2 ∧ (drvTo st p q l k).2 ≤ 100000 * 200 ^ k := by
  induction k with
  | zero => simp [drvTo]; omega
  | succ k ih =>
    have ih := ih (by omega)
    have h1 := hl k (by omega)
    have h2 := hst _ h1.1 h1.2
    have e : (100000 : Int) * 200 ^ (k + 1) = (100000 * 200 ^ k) * 200 := by rw [Int.pow_succ, Int.mul_assoc]
    have h0 : (0 : Int) ≤ 100000 * 200 ^ k := Int.mul_nonneg (by omega) (Int.pow_nonneg (by omega))
    rw [drvTo, e]
    generalize (100000 : Int) * 200 ^ k = X at *
    split
    · have := mulB ih.1.1 h2.1 ih.1.2 h2.2
      simp only; omega
    · have := mulB ih.2.1 h2.1 ih.2.2 h2.2
      simp only; omega
theorem pow4 {k : Nat} (h : k ≤ 4) : (100000 : Int) * 200 ^ k ≤ 160000000000000 := by
  rcases (show k = 0 ∨ k = 1 ∨ k = 2 ∨ k = 3 ∨ k = 4 by omega) with rfl | rfl | rfl | rfl | rfl <;> decide
end Go.Oc
namespace Go.Proofs.YtnoahnbjdapieaaDoor
open Go.RowKit Go.Pm Go.Oc
set_option maxRecDepth 100000
set_option linter.unusedVariables false
set_option maxHeartbeats 4000000

theorem iBad_c (n : Int) : PCalls Tryd.prog 66 [.int .i64 n] (.bool (badW n)) := by
  refine pcalls_by Tryd.mixes spU1_ok (fn := Tryd.f66) Tryd.func66 rfl (by kernel_rfl) (by show 1 ≤ _; decide) ?_
  simp (decide := true) (maxSteps := 4000000) only [go_sem, Nat.reduceAdd, Nat.reduceSub, Nat.reduceMul, Nat.reduceDiv, Nat.reduceMod, Nat.reduceLT, Nat.reduceLeDiff, Nat.reduceEqDiff, Nat.reduceBEq, Nat.reduceBNe, Nat.reduceGT, Int.reduceAdd, Int.reduceSub, Int.reduceMul, Int.reduceNeg, Int.reduceLT, Int.reduceLE, Int.reduceEq, Int.reduceNe, Int.reduceBEq, Int.reduceBNe, Int.reduceToNat, Int.reduceGT, Int.reduceGE, ↓reduceIte, decide_true, decide_false, eq_self, Nat.mul_one, Nat.zero_mul, Nat.one_mul, Int.le_refl, Nat.le_refl, Int.cast_ofNat_Int, Tryd.f66, badW]
noncomputable def ixBad : List TV → Option TV
  | [.int .i64 n] => some (.bool (badW n))
  | _ => none
theorem ixBad_ok : ∀ xs r, ixBad xs = some r → PCalls Tryd.prog 66 xs r := by
  intro xs r h
  unfold ixBad at h
  split at h
  · cases h; exact iBad_c _
  · cases h
attribute [go_sem] ixBad
noncomputable def spD1 : Pm.Spec := spU1.one 66 ixBad
@[go_sem] theorem spD1_p (f : FuncId) (xs : List TV) : spD1.p f xs = Pm.Spec.p (spU1.one 66 ixBad) f xs := rfl
@[go_sem] theorem spD1_h (f : FuncId) (ps : List PV) (hl : List PO) : spD1.h f ps hl = Pm.Spec.h (spU1.one 66 ixBad) f ps hl := rfl
@[go_sem] theorem spD1_fz (f : FuncId) : spD1.fz f = Pm.Spec.fz (spU1.one 66 ixBad) f := rfl
@[go_sem] theorem spD1_fr (f : FuncId) : spD1.fr f = Pm.Spec.fr (spU1.one 66 ixBad) f := rfl
@[go_sem] theorem spD1_mu (t : TypeId) : spD1.mu t = Pm.Spec.mu (spU1.one 66 ixBad) t := rfl
theorem spD1_ok : SpecOk Tryd.prog spD1 := Spec.one_ok ixBad_ok spU1_ok
theorem iIndexFunc_c {l : List Int} {s : TV} (hl : IsRow ic s l) (hll : l.length ≤ 17592186044415) : PCalls Tryd.prog 69 [s, .fn 66 [] []] (.int .i64 (idxBad l)) := by
  have hz : idxBad l = (fsTo (fun i => if badW (nthI l i) then some (i : Int) else none) l.length).getD (-1) := rfl
  refine pcalls_by Tryd.mixes spD1_ok (fn := Tryd.f69) Tryd.func69 rfl (by kernel_rfl) (by show 2 ≤ _; decide) ?_
  rcases hl with ⟨rfl, rfl⟩ | ⟨f, rfl⟩
  · simp (decide := true) (maxSteps := 4000000) only [go_sem, Nat.reduceAdd, Nat.reduceSub, Nat.reduceMul, Nat.reduceDiv, Nat.reduceMod, Nat.reduceLT, Nat.reduceLeDiff, Nat.reduceEqDiff, Nat.reduceBEq, Nat.reduceBNe, Nat.reduceGT, Int.reduceAdd, Int.reduceSub, Int.reduceMul, Int.reduceNeg, Int.reduceLT, Int.reduceLE, Int.reduceEq, Int.reduceNe, Int.reduceBEq, Int.reduceBNe, Int.reduceToNat, Int.reduceGT, Int.reduceGE, ↓reduceIte, decide_true, decide_false, eq_self, Nat.mul_one, Nat.zero_mul, Nat.one_mul, Int.le_refl, Nat.le_refl, Int.cast_ofNat_Int, Tryd.f69]
    refine pwpC_loopU (A := Unit) [0, 1, 4, 7] (fun _ => [(8, .t (.int .i64 0))]) (fun _ => []) (fun _ => 0) () (by decide) (fun _ => by rfl) ?_ fun Q1 hQ1 _ I1 hI1 => ?_
    · simp (decide := true) (maxSteps := 4000000) only [go_sem, Nat.reduceAdd, Nat.reduceSub, Nat.reduceMul, Nat.reduceDiv, Nat.reduceMod, Nat.reduceLT, Nat.reduceLeDiff, Nat.reduceEqDiff, Nat.reduceBEq, Nat.reduceBNe, Nat.reduceGT, Int.reduceAdd, Int.reduceSub, Int.reduceMul, Int.reduceNeg, Int.reduceLT, Int.reduceLE, Int.reduceEq, Int.reduceNe, Int.reduceBEq, Int.reduceBNe, Int.reduceToNat, Int.reduceGT, Int.reduceGE, ↓reduceIte, decide_true, decide_false, eq_self, Nat.mul_one, Nat.zero_mul, Nat.one_mul, Int.le_refl, Nat.le_refl, Int.cast_ofNat_Int]
    · simp (decide := true) (maxSteps := 4000000) only [go_sem, Nat.reduceAdd, Nat.reduceSub, Nat.reduceMul, Nat.reduceDiv, Nat.reduceMod, Nat.reduceLT, Nat.reduceLeDiff, Nat.reduceEqDiff, Nat.reduceBEq, Nat.reduceBNe, Nat.reduceGT, Int.reduceAdd, Int.reduceSub, Int.reduceMul, Int.reduceNeg, Int.reduceLT, Int.reduceLE, Int.reduceEq, Int.reduceNe, Int.reduceBEq, Int.reduceBNe, Int.reduceToNat, Int.reduceGT, Int.reduceGE, ↓reduceIte, decide_true, decide_false, eq_self, Nat.mul_one, Nat.zero_mul, Nat.one_mul, Int.le_refl, Nat.le_refl, Int.cast_ofNat_Int]
      refine hQ1 _ _ ?_
      simp (decide := true) (maxSteps := 4000000) only [go_sem, Nat.reduceAdd, Nat.reduceSub, Nat.reduceMul, Nat.reduceDiv, Nat.reduceMod, Nat.reduceLT, Nat.reduceLeDiff, Nat.reduceEqDiff, Nat.reduceBEq, Nat.reduceBNe, Nat.reduceGT, Int.reduceAdd, Int.reduceSub, Int.reduceMul, Int.reduceNeg, Int.reduceLT, Int.reduceLE, Int.reduceEq, Int.reduceNe, Int.reduceBEq, Int.reduceBNe, Int.reduceToNat, Int.reduceGT, Int.reduceGE, ↓reduceIte, decide_true, decide_false, eq_self, Nat.mul_one, Nat.zero_mul, Nat.one_mul, Int.le_refl, Nat.le_refl, Int.cast_ofNat_Int]
      first | done | rfl
  · rw [ic_ints]
    simp (decide := true) (maxSteps := 4000000) only [go_sem, Nat.reduceAdd, Nat.reduceSub, Nat.reduceMul, Nat.reduceDiv, Nat.reduceMod, Nat.reduceLT, Nat.reduceLeDiff, Nat.reduceEqDiff, Nat.reduceBEq, Nat.reduceBNe, Nat.reduceGT, Int.reduceAdd, Int.reduceSub, Int.reduceMul, Int.reduceNeg, Int.reduceLT, Int.reduceLE, Int.reduceEq, Int.reduceNe, Int.reduceBEq, Int.reduceBNe, Int.reduceToNat, Int.reduceGT, Int.reduceGE, ↓reduceIte, decide_true, decide_false, eq_self, Nat.mul_one, Nat.zero_mul, Nat.one_mul, Int.le_refl, Nat.le_refl, Int.cast_ofNat_Int, Tryd.f69]
    refine pwpC_loopU (A := { k : Nat // k ≤ l.length ∧ fsTo (fun i => if badW (nthI l i) then some (i : Int) else none) k = none }) [0, 1, 4, 7] (fun k => [(8, .t (.int .i64 k.1))]) (fun _ => []) (fun k => l.length - k.1) ⟨0, by omega, rfl⟩ (by decide) (fun _ => by rfl) ?_ fun Q1 hQ1 ⟨k, hk, hno⟩ I1 hI1 => ?_
    · simp (decide := true) (maxSteps := 4000000) only [go_sem, Nat.reduceAdd, Nat.reduceSub, Nat.reduceMul, Nat.reduceDiv, Nat.reduceMod, Nat.reduceLT, Nat.reduceLeDiff, Nat.reduceEqDiff, Nat.reduceBEq, Nat.reduceBNe, Nat.reduceGT, Int.reduceAdd, Int.reduceSub, Int.reduceMul, Int.reduceNeg, Int.reduceLT, Int.reduceLE, Int.reduceEq, Int.reduceNe, Int.reduceBEq, Int.reduceBNe, Int.reduceToNat, Int.reduceGT, Int.reduceGE, ↓reduceIte, decide_true, decide_false, eq_self, Nat.mul_one, Nat.zero_mul, Nat.one_mul, Int.le_refl, Nat.le_refl, Int.cast_ofNat_Int]
    · by_cases hlt : (k : Int) < l.length
      · obtain ⟨x, hx⟩ := get_lt hlt
        have hd := ints_at hx
        rw [Nat.mul_one] at hd
        have hnx := nthI_at hx
        have hc1 : IntKind.i64.wrap (k + 1) = ((k + 1 : Nat) : Int) := by rw [wrap_in (by omega) (by omega)]; omega
        cases hb : badW x with
        | true =>
          have e : idxBad l = k := by
            rw [hz, fsTo_hit hno (show k < l.length by omega) (by rw [hnx, hb]; rfl)]; rfl
          simp (decide := true) (maxSteps := 4000000) only [go_sem, Nat.reduceAdd, Nat.reduceSub, Nat.reduceMul, Nat.reduceDiv, Nat.reduceMod, Nat.reduceLT, Nat.reduceLeDiff, Nat.reduceEqDiff, Nat.reduceBEq, Nat.reduceBNe, Nat.reduceGT, Int.reduceAdd, Int.reduceSub, Int.reduceMul, Int.reduceNeg, Int.reduceLT, Int.reduceLE, Int.reduceEq, Int.reduceNe, Int.reduceBEq, Int.reduceBNe, Int.reduceToNat, Int.reduceGT, Int.reduceGE, ↓reduceIte, decide_true, decide_false, eq_self, Nat.mul_one, Nat.zero_mul, Nat.one_mul, Int.le_refl, Nat.le_refl, Int.cast_ofNat_Int, hlt, hd, hb]
          try (refine hQ1 _ _ ?_)
          try simp (decide := true) (maxSteps := 4000000) only [go_sem, Nat.reduceAdd, Nat.reduceSub, Nat.reduceMul, Nat.reduceDiv, Nat.reduceMod, Nat.reduceLT, Nat.reduceLeDiff, Nat.reduceEqDiff, Nat.reduceBEq, Nat.reduceBNe, Nat.reduceGT, Int.reduceAdd, Int.reduceSub, Int.reduceMul, Int.reduceNeg, Int.reduceLT, Int.reduceLE, Int.reduceEq, Int.reduceNe, Int.reduceBEq, Int.reduceBNe, Int.reduceToNat, Int.reduceGT, Int.reduceGE, ↓reduceIte, decide_true, decide_false, eq_self, Nat.mul_one, Nat.zero_mul, Nat.one_mul, Int.le_refl, Nat.le_refl, Int.cast_ofNat_Int, e]
        | false =>
          simp (decide := true) (maxSteps := 4000000) only [go_sem, Nat.reduceAdd, Nat.reduceSub, Nat.reduceMul, Nat.reduceDiv, Nat.reduceMod, Nat.reduceLT, Nat.reduceLeDiff, Nat.reduceEqDiff, Nat.reduceBEq, Nat.reduceBNe, Nat.reduceGT, Int.reduceAdd, Int.reduceSub, Int.reduceMul, Int.reduceNeg, Int.reduceLT, Int.reduceLE, Int.reduceEq, Int.reduceNe, Int.reduceBEq, Int.reduceBNe, Int.reduceToNat, Int.reduceGT, Int.reduceGE, ↓reduceIte, decide_true, decide_false, eq_self, Nat.mul_one, Nat.zero_mul, Nat.one_mul, Int.le_refl, Nat.le_refl, Int.cast_ofNat_Int, hlt, hd, hb]
          refine hI1 _ ⟨k + 1, by omega, by rw [fsTo_succ, hno, hnx, hb]; rfl⟩ (by simp only; omega) ?_
          simp (decide := true) (maxSteps := 4000000) only [go_sem, Nat.reduceAdd, Nat.reduceSub, Nat.reduceMul, Nat.reduceDiv, Nat.reduceMod, Nat.reduceLT, Nat.reduceLeDiff, Nat.reduceEqDiff, Nat.reduceBEq, Nat.reduceBNe, Nat.reduceGT, Int.reduceAdd, Int.reduceSub, Int.reduceMul, Int.reduceNeg, Int.reduceLT, Int.reduceLE, Int.reduceEq, Int.reduceNe, Int.reduceBEq, Int.reduceBNe, Int.reduceToNat, Int.reduceGT, Int.reduceGE, ↓reduceIte, decide_true, decide_false, eq_self, Nat.mul_one, Nat.zero_mul, Nat.one_mul, Int.le_refl, Nat.le_refl, Int.cast_ofNat_Int, hc1]
      · have hke : k = l.length := by omega
        subst hke
        have e : idxBad l = -1 := by rw [hz, hno]; rfl
        simp (decide := true) (maxSteps := 4000000) only [go_sem, Nat.reduceAdd, Nat.reduceSub, Nat.reduceMul, Nat.reduceDiv, Nat.reduceMod, Nat.reduceLT, Nat.reduceLeDiff, Nat.reduceEqDiff, Nat.reduceBEq, Nat.reduceBNe, Nat.reduceGT, Int.reduceAdd, Int.reduceSub, Int.reduceMul, Int.reduceNeg, Int.reduceLT, Int.reduceLE, Int.reduceEq, Int.reduceNe, Int.reduceBEq, Int.reduceBNe, Int.reduceToNat, Int.reduceGT, Int.reduceGE, ↓reduceIte, decide_true, decide_false, eq_self, Nat.mul_one, Nat.zero_mul, Nat.one_mul, Int.le_refl, Nat.le_refl, Int.cast_ofNat_Int, hlt]
        refine hQ1 _ _ ?_
        simp (decide := true) (maxSteps := 4000000) only [go_sem, Nat.reduceAdd, Nat.reduceSub, Nat.reduceMul, Nat.reduceDiv, Nat.reduceMod, Nat.reduceLT, Nat.reduceLeDiff, Nat.reduceEqDiff, Nat.reduceBEq, Nat.reduceBNe, Nat.reduceGT, Int.reduceAdd, Int.reduceSub, Int.reduceMul, Int.reduceNeg, Int.reduceLT, Int.reduceLE, Int.reduceEq, Int.reduceNe, Int.reduceBEq, Int.reduceBNe, Int.reduceToNat, Int.reduceGT, Int.reduceGE, ↓reduceIte, decide_true, decide_false, eq_self, Nat.mul_one, Nat.zero_mul, Nat.one_mul, Int.le_refl, Nat.le_refl, Int.cast_ofNat_Int, e]
noncomputable def ixIndexFunc : List TV → Option TV
  | [s, .fn F [] []] => match rowL unI s with
    | some l => if l.length ≤ 17592186044415 ∧ F = 66 then some (.int .i64 (idxBad l)) else none
    | none => none
  | _ => none
theorem ixIndexFunc_ok : ∀ xs r, ixIndexFunc xs = some r → PCalls Tryd.prog 69 xs r := by
  intro xs r h
  unfold ixIndexFunc at h
  split at h
  · split at h
    · rename_i l hl
      have hl := rowL_some (un := unI) rfl (@unI_some) hl
      split at h
      · rename_i hc; cases h
        obtain ⟨h1, rfl⟩ := hc
        exact iIndexFunc_c hl h1
      · cases h
    · cases h
  · cases h
attribute [go_sem] ixIndexFunc
noncomputable def spD2 : Pm.Spec := spU1.one 69 ixIndexFunc
@[go_sem] theorem spD2_p (f : FuncId) (xs : List TV) : spD2.p f xs = Pm.Spec.p (spU1.one 69 ixIndexFunc) f xs := rfl
@[go_sem] theorem spD2_h (f : FuncId) (ps : List PV) (hl : List PO) : spD2.h f ps hl = Pm.Spec.h (spU1.one 69 ixIndexFunc) f ps hl := rfl
@[go_sem] theorem spD2_fz (f : FuncId) : spD2.fz f = Pm.Spec.fz (spU1.one 69 ixIndexFunc) f := rfl
@[go_sem] theorem spD2_fr (f : FuncId) : spD2.fr f = Pm.Spec.fr (spU1.one 69 ixIndexFunc) f := rfl
@[go_sem] theorem spD2_mu (t : TypeId) : spD2.mu t = Pm.Spec.mu (spU1.one 69 ixIndexFunc) t := rfl
theorem spD2_ok : SpecOk Tryd.prog spD2 := Spec.one_ok ixIndexFunc_ok spU1_ok
theorem iContains_c {l : List Int} {s : TV} (hl : IsRow ic s l) (hll : l.length ≤ 17592186044415) : PCalls Tryd.prog 65 [s, .fn 66 [] []] (.bool (!(l.all fun n => inB n 10 200))) := by
  have rI := rowI_is hl
  unfold rowL at rI
  have hb := idxBad_iff l
  refine pcalls_by Tryd.mixes spD2_ok (fn := Tryd.f65) Tryd.func65 rfl (by kernel_rfl) (by show 2 ≤ _; decide) ?_
  simp (decide := true) (maxSteps := 4000000) only [go_sem, Nat.reduceAdd, Nat.reduceSub, Nat.reduceMul, Nat.reduceDiv, Nat.reduceMod, Nat.reduceLT, Nat.reduceLeDiff, Nat.reduceEqDiff, Nat.reduceBEq, Nat.reduceBNe, Nat.reduceGT, Int.reduceAdd, Int.reduceSub, Int.reduceMul, Int.reduceNeg, Int.reduceLT, Int.reduceLE, Int.reduceEq, Int.reduceNe, Int.reduceBEq, Int.reduceBNe, Int.reduceToNat, Int.reduceGT, Int.reduceGE, ↓reduceIte, decide_true, decide_false, eq_self, Nat.mul_one, Nat.zero_mul, Nat.one_mul, Int.le_refl, Nat.le_refl, Int.cast_ofNat_Int, Tryd.f65, rI, hll, hb]
noncomputable def ixContains : List TV → Option TV
  | [s, .fn F [] []] => match rowL unI s with
    | some l => if l.length ≤ 17592186044415 ∧ F = 66 then some (.bool (!(l.all fun n => inB n 10 200))) else none
    | none => none
  | _ => none
theorem ixContains_ok : ∀ xs r, ixContains xs = some r → PCalls Tryd.prog 65 xs r := by
  intro xs r h
  unfold ixContains at h
  split at h
  · split at h
    · rename_i l hl
      have hl := rowL_some (un := unI) rfl (@unI_some) hl
      split at h
      · rename_i hc; cases h
        obtain ⟨h1, rfl⟩ := hc
        exact iContains_c hl h1
      · cases h
    · cases h
  · cases h
attribute [go_sem] ixContains
noncomputable def spD3 : Pm.Spec := spU1.one 65 ixContains
@[go_sem] theorem spD3_p (f : FuncId) (xs : List TV) : spD3.p f xs = Pm.Spec.p (spU1.one 65 ixContains) f xs := rfl
@[go_sem] theorem spD3_h (f : FuncId) (ps : List PV) (hl : List PO) : spD3.h f ps hl = Pm.Spec.h (spU1.one 65 ixContains) f ps hl := rfl
@[go_sem] theorem spD3_fz (f : FuncId) : spD3.fz f = Pm.Spec.fz (spU1.one 65 ixContains) f := rfl
@[go_sem] theorem spD3_fr (f : FuncId) : spD3.fr f = Pm.Spec.fr (spU1.one 65 ixContains) f := rfl
@[go_sem] theorem spD3_mu (t : TypeId) : spD3.mu t = Pm.Spec.mu (spU1.one 65 ixContains) t := rfl
theorem spD3_ok : SpecOk Tryd.prog spD3 := Spec.one_ok ixContains_ok spU1_ok
theorem iIsStock_c {l : List Int} {s : TV} (hl : IsRow ic s l) (hll : l.length ≤ 17592186044415) : PCalls Tryd.prog 57 [s] (.bool (stockOk1 l)) := by
  have rI := rowI_is hl
  unfold rowL at rI
  have e : stockOk1 l = (inB l.length 2 10 && l.all fun n => inB n 10 200) := rfl
  refine pcalls_by Tryd.mixes spD3_ok (fn := Tryd.f57) Tryd.func57 rfl (by kernel_rfl) (by show 1 ≤ _; decide) ?_
  rcases hl with ⟨rfl, rfl⟩ | ⟨f, rfl⟩
  · have h0 : inB 0 2 10 = false := rfl
    have e' : stockOk1 [] = false := rfl
    simp (decide := true) (maxSteps := 4000000) only [go_sem, Nat.reduceAdd, Nat.reduceSub, Nat.reduceMul, Nat.reduceDiv, Nat.reduceMod, Nat.reduceLT, Nat.reduceLeDiff, Nat.reduceEqDiff, Nat.reduceBEq, Nat.reduceBNe, Nat.reduceGT, Int.reduceAdd, Int.reduceSub, Int.reduceMul, Int.reduceNeg, Int.reduceLT, Int.reduceLE, Int.reduceEq, Int.reduceNe, Int.reduceBEq, Int.reduceBNe, Int.reduceToNat, Int.reduceGT, Int.reduceGE, ↓reduceIte, decide_true, decide_false, eq_self, Nat.mul_one, Nat.zero_mul, Nat.one_mul, Int.le_refl, Nat.le_refl, Int.cast_ofNat_Int, Tryd.f57, rI, h0, e']
  · rw [ic_ints] at rI ⊢
    simp only [unI_eq, if_true] at rI
    cases h1 : inB (l.length : Int) 2 10 <;> cases h2 : (l.all fun n => inB n 10 200) <;> rw [h1, h2] at e <;> simp (decide := true) (maxSteps := 4000000) only [go_sem, Nat.reduceAdd, Nat.reduceSub, Nat.reduceMul, Nat.reduceDiv, Nat.reduceMod, Nat.reduceLT, Nat.reduceLeDiff, Nat.reduceEqDiff, Nat.reduceBEq, Nat.reduceBNe, Nat.reduceGT, Int.reduceAdd, Int.reduceSub, Int.reduceMul, Int.reduceNeg, Int.reduceLT, Int.reduceLE, Int.reduceEq, Int.reduceNe, Int.reduceBEq, Int.reduceBNe, Int.reduceToNat, Int.reduceGT, Int.reduceGE, ↓reduceIte, decide_true, decide_false, eq_self, Nat.mul_one, Nat.zero_mul, Nat.one_mul, Int.le_refl, Nat.le_refl, Int.cast_ofNat_Int, Tryd.f57, unI_eq, hll, h1, h2, e]
noncomputable def ixIsStock : List TV → Option TV
  | [s] => match rowL unI s with
    | some l => if l.length ≤ 17592186044415 then some (.bool (stockOk1 l)) else none
    | none => none
  | _ => none
theorem ixIsStock_ok : ∀ xs r, ixIsStock xs = some r → PCalls Tryd.prog 57 xs r := by
  intro xs r h
  unfold ixIsStock at h
  split at h
  · split at h
    · rename_i l hl
      have hl := rowL_some (un := unI) rfl (@unI_some) hl
      split at h
      · rename_i hc; cases h; exact iIsStock_c hl hc
      · cases h
    · cases h
  · cases h
attribute [go_sem] ixIsStock
/-- Do wheels fit? -/
theorem iFits_c {st : List Int} {p q : Int} {l : List Int} {s : TV} (f : TV → Option TV) (tt : Nat) (ht : tt = 107) (hf : ∀ i : Nat, i < st.length → f (.int .i64 i) = some (.int .i64 (nthI st i)))
    (hst : ∀ i : Int, 0 ≤ i → i < st.length → 0 ≤ nthI st i ∧ nthI st i ≤ 200) (hl : ∀ k : Nat, k < l.length → 0 ≤ nthI l k ∧ nthI l k < st.length) (hp : 0 ≤ p ∧ p ≤ 100000) (hq : 0 ≤ q ∧ q ≤ 100000) (h4 : l.length = 2 ∨ l.length = 4) (hs : IsRow ic s l) :
    HCalls Tryd.prog 67 [.t s, .ptr 0 0, .ptr 1 0, .ptr 2 0] (getL [.box [.t (.int .i64 q)], .box [.t (.int .i64 p)], .box [.mapr 3], .mp tt f]) (.t (.bool (fitsL st p q l))) (getL [.box [.t (.int .i64 q)], .box [.t (.int .i64 p)], .box [.mapr 3], .mp tt f]) := by
  obtain ⟨full, rfl⟩ := hs.ne (by omega)
  subst ht
  rw [ic_ints, drv_all st p q h4]
  refine hcalls_by Tryd.mixes noSpec_ok (fn := Tryd.f67) Tryd.func67 rfl (by kernel_rfl) (by show 4 ≤ _; decide) ?_
  simp (decide := true) (maxSteps := 4000000) only [go_sem, Nat.reduceAdd, Nat.reduceSub, Nat.reduceMul, Nat.reduceDiv, Nat.reduceMod, Nat.reduceLT, Nat.reduceLeDiff, Nat.reduceEqDiff, Nat.reduceBEq, Nat.reduceBNe, Nat.reduceGT, Int.reduceAdd, Int.reduceSub, Int.reduceMul, Int.reduceNeg, Int.reduceLT, Int.reduceLE, Int.reduceEq, Int.reduceNe, Int.reduceBEq, Int.reduceBNe, Int.reduceToNat, Int.reduceGT, Int.reduceGE, ↓reduceIte, decide_true, decide_false, eq_self, Nat.mul_one, Nat.zero_mul, Nat.one_mul, Int.le_refl, Nat.le_refl, Int.cast_ofNat_Int, Tryd.f67]
  refine pwpC_loopU (A := { k : Nat // k ≤ l.length }) [0, 1, 2, 3, 12, 13] (fun k => [(14, .t (.int .i64 k.1)), (6, .t (.int .i64 (drvTo st p q l k.1).1)), (7, .t (.int .i64 (drvTo st p q l k.1).2))]) (fun _ => []) (fun k => l.length - k.1) ⟨0, by omega⟩ (by decide) (fun _ => by rfl) ?_ fun Q1 hQ1 ⟨k, hk⟩ I1 hI1 => ?_
  · simp (decide := true) (maxSteps := 4000000) only [go_sem, Nat.reduceAdd, Nat.reduceSub, Nat.reduceMul, Nat.reduceDiv, Nat.reduceMod, Nat.reduceLT, Nat.reduceLeDiff, Nat.reduceEqDiff, Nat.reduceBEq, Nat.reduceBNe, Nat.reduceGT, Int.reduceAdd, Int.reduceSub, Int.reduceMul, Int.reduceNeg, Int.reduceLT, Int.reduceLE, Int.reduceEq, Int.reduceNe, Int.reduceBEq, Int.reduceBNe, Int.reduceToNat, Int.reduceGT, Int.reduceGE, ↓reduceIte, decide_true, decide_false, eq_self, Nat.mul_one, Nat.zero_mul, Nat.one_mul, Int.le_refl, Nat.le_refl, Int.cast_ofNat_Int, drvTo]
  · by_cases hlt : (k : Int) < l.length
    · obtain ⟨x, hx⟩ := get_lt hlt
      have hd := ints_at hx
      rw [Nat.mul_one] at hd
      have hnx := nthI_at hx
      have hc1 : IntKind.i64.wrap (k + 1) = ((k + 1 : Nat) : Int) := by rw [wrap_in (by omega) (by omega)]; omega
      have hxb := hl k (by omega)
      rw [hnx] at hxb
      obtain ⟨j, rfl⟩ := Int.eq_ofNat_of_zero_le hxb.1
      have hfj := hf j (by omega)
      have hsj := hst j hxb.1 hxb.2
      have hdb := drv_bound (p := p) (q := q) hst hl hp hq k hk
      have h4k := pow4 (show k ≤ 4 by omega)
      have hsu : drvTo st p q l (k + 1) = if k % 2 = 0 then ((drvTo st p q l k).1 * nthI st j, (drvTo st p q l k).2) else ((drvTo st p q l k).1, (drvTo st p q l k).2 * nthI st j) := by rw [drvTo, hnx]
      generalize (100000 : Int) * 200 ^ k = X at *
      have m1 := mulB hdb.1.1 hsj.1 hdb.1.2 hsj.2
      have m2 := mulB hdb.2.1 hsj.1 hdb.2.2 hsj.2
      have w1 : IntKind.i64.wrap ((drvTo st p q l k).1 * nthI st j) = (drvTo st p q l k).1 * nthI st j := wrap_in (by omega) (by omega)
      have w2 : IntKind.i64.wrap ((drvTo st p q l k).2 * nthI st j) = (drvTo st p q l k).2 * nthI st j := wrap_in (by omega) (by omega)
      have hmod : ((k : Int).tmod 2) = ((k % 2 : Nat) : Int) := (Int.ofNat_tmod k 2).symm
      by_cases hk2 : k % 2 = 0
      · rw [if_pos hk2] at hsu
        have e1 : (((k % 2 : Nat) : Int) == 0) = true := beq_int_t (by omega)
        simp (decide := true) (maxSteps := 4000000) only [go_sem, Nat.reduceAdd, Nat.reduceSub, Nat.reduceMul, Nat.reduceDiv, Nat.reduceMod, Nat.reduceLT, Nat.reduceLeDiff, Nat.reduceEqDiff, Nat.reduceBEq, Nat.reduceBNe, Nat.reduceGT, Int.reduceAdd, Int.reduceSub, Int.reduceMul, Int.reduceNeg, Int.reduceLT, Int.reduceLE, Int.reduceEq, Int.reduceNe, Int.reduceBEq, Int.reduceBNe, Int.reduceToNat, Int.reduceGT, Int.reduceGE, ↓reduceIte, decide_true, decide_false, eq_self, Nat.mul_one, Nat.zero_mul, Nat.one_mul, Int.le_refl, Nat.le_refl, Int.cast_ofNat_Int, hlt, hd, hmod, e1, hfj, Option.getD_some, w1]
        refine hI1 _ ⟨k + 1, by omega⟩ (by simp only; omega) ?_
        simp (decide := true) (maxSteps := 4000000) only [go_sem, Nat.reduceAdd, Nat.reduceSub, Nat.reduceMul, Nat.reduceDiv, Nat.reduceMod, Nat.reduceLT, Nat.reduceLeDiff, Nat.reduceEqDiff, Nat.reduceBEq, Nat.reduceBNe, Nat.reduceGT, Int.reduceAdd, Int.reduceSub, Int.reduceMul, Int.reduceNeg, Int.reduceLT, Int.reduceLE, Int.reduceEq, Int.reduceNe, Int.reduceBEq, Int.reduceBNe, Int.reduceToNat, Int.reduceGT, Int.reduceGE, ↓reduceIte, decide_true, decide_false, eq_self, Nat.mul_one, Nat.zero_mul, Nat.one_mul, Int.le_refl, Nat.le_refl, Int.cast_ofNat_Int, hc1, hsu]
      · rw [if_neg hk2] at hsu
        have e1 : (((k % 2 : Nat) : Int) == 0) = false := beq_int_f (by omega)
        simp (decide := true) (maxSteps := 4000000) only [go_sem, Nat.reduceAdd, Nat.reduceSub, Nat.reduceMul, Nat.reduceDiv, Nat.reduceMod, Nat.reduceLT, Nat.reduceLeDiff, Nat.reduceEqDiff, Nat.reduceBEq, Nat.reduceBNe, Nat.reduceGT, Int.reduceAdd, Int.reduceSub, Int.reduceMul, Int.reduceNeg, Int.reduceLT, Int.reduceLE, Int.reduceEq, Int.reduceNe, Int.reduceBEq, Int.reduceBNe, Int.reduceToNat, Int.reduceGT, Int.reduceGE, ↓reduceIte, decide_true, decide_false, eq_self, Nat.mul_one, Nat.zero_mul, Nat.one_mul, Int.le_refl, Nat.le_refl, Int.cast_ofNat_Int, hlt, hd, hmod, e1, hfj, Option.getD_some, w2]
        refine hI1 _ ⟨k + 1, by omega⟩ (by simp only; omega) ?_
        simp (decide := true) (maxSteps := 4000000) only [go_sem, Nat.reduceAdd, Nat.reduceSub, Nat.reduceMul, Nat.reduceDiv, Nat.reduceMod, Nat.reduceLT, Nat.reduceLeDiff, Nat.reduceEqDiff, Nat.reduceBEq, Nat.reduceBNe, Nat.reduceGT, Int.reduceAdd, Int.reduceSub, Int.reduceMul, Int.reduceNeg, Int.reduceLT, Int.reduceLE, Int.reduceEq, Int.reduceNe, Int.reduceBEq, Int.reduceBNe, Int.reduceToNat, Int.reduceGT, Int.reduceGE, ↓reduceIte, decide_true, decide_false, eq_self, Nat.mul_one, Nat.zero_mul, Nat.one_mul, Int.le_refl, Nat.le_refl, Int.cast_ofNat_Int, hc1, hsu]
    · have hke : k = l.length := by omega
      subst hke
      simp (decide := true) (maxSteps := 4000000) only [go_sem, Nat.reduceAdd, Nat.reduceSub, Nat.reduceMul, Nat.reduceDiv, Nat.reduceMod, Nat.reduceLT, Nat.reduceLeDiff, Nat.reduceEqDiff, Nat.reduceBEq, Nat.reduceBNe, Nat.reduceGT, Int.reduceAdd, Int.reduceSub, Int.reduceMul, Int.reduceNeg, Int.reduceLT, Int.reduceLE, Int.reduceEq, Int.reduceNe, Int.reduceBEq, Int.reduceBNe, Int.reduceToNat, Int.reduceGT, Int.reduceGE, ↓reduceIte, decide_true, decide_false, eq_self, Nat.mul_one, Nat.zero_mul, Nat.one_mul, Int.le_refl, Nat.le_refl, Int.cast_ofNat_Int, hlt]
      refine hQ1 _ _ ?_
      simp (decide := true) (maxSteps := 4000000) only [go_sem, Nat.reduceAdd, Nat.reduceSub, Nat.reduceMul, Nat.reduceDiv, Nat.reduceMod, Nat.reduceLT, Nat.reduceLeDiff, Nat.reduceEqDiff, Nat.reduceBEq, Nat.reduceBNe, Nat.reduceGT, Int.reduceAdd, Int.reduceSub, Int.reduceMul, Int.reduceNeg, Int.reduceLT, Int.reduceLE, Int.reduceEq, Int.reduceNe, Int.reduceBEq, Int.reduceBNe, Int.reduceToNat, Int.reduceGT, Int.reduceGE, ↓reduceIte, decide_true, decide_false, eq_self, Nat.mul_one, Nat.zero_mul, Nat.one_mul, Int.le_refl, Nat.le_refl, Int.cast_ofNat_Int]
      exact ⟨_, rfl, rfl⟩
end Go.Proofs.YtnoahnbjdapieaaDoor

/- Part Ie. -/
namespace Go.Oc
open Go Go.Pm
set_option maxRecDepth 100000
def noTn : Tn := ⟨-1, -1, -1, -1⟩
theorem allO_t (xs ys : List TV) : allO (List.map PV.toT (List.map PV.t xs ++ List.map PV.t ys)) = some (xs ++ ys) := by
  rw [← List.map_append, List.map_map]
  generalize xs ++ ys = zs
  induction zs with
  | nil => rfl
  | cons z zs ih => simp only [List.map_cons, Function.comp, PV.toT, allO, ih, Option.map_some]
theorem allO_t1 (xs : List TV) (y : TV) : allO (List.map PV.toT (List.map PV.t xs ++ [PV.t y])) = some (xs ++ [y]) := allO_t xs [y]
/-- The map of the teeth, of the first ones. -/
noncomputable def tMap (st : List Int) (k : Nat) : TV → Option TV := (List.range k).foldl (fun g (i : Nat) => updT g (.int .i64 i) (.int .i64 (nthI st i))) fun _ => none
theorem tMap_succ (st : List Int) (k : Nat) : tMap st (k + 1) = updT (tMap st k) (.int .i64 k) (.int .i64 (nthI st k)) := by
  unfold tMap; rw [List.range_succ, List.foldl_append]; rfl
theorem tMap_at (st : List Int) : ∀ {k i : Nat}, i < k → tMap st k (.int .i64 i) = some (.int .i64 (nthI st i))
  | k + 1, i, h => by
    rw [tMap_succ]
    unfold updT
    by_cases hik : i = k
    · subst hik; rw [if_pos rfl]
    · rw [if_neg (by intro e; simp only [TV.int.injEq, true_and] at e; omega)]
      exact tMap_at st (by omega)
/-- Indices of a stock. -/
def idxOk (st l : List Int) : Bool := l.all fun x => inB x 0 ((st.length : Int) - 1)
theorem idxOk_at {st l : List Int} (h : idxOk st l = true) (k : Nat) (hk : k < l.length) : 0 ≤ nthI l k ∧ nthI l k < st.length := by
  have hx : l[k]? = some l[k] := List.getElem?_eq_getElem hk
  rw [nthI_at hx]
  have := inB_iff.1 (List.all_eq_true.1 h l[k] (List.getElem_mem _))
  omega
/-- What the step of the search tries. -/
def srchF (st : List Int) (p q : Int) (d : Nat) (l : List Int) (i : Nat) : Option (List Int) := if l.contains (i : Int) then none else srch st p q d (l ++ [(i : Int)])
theorem srch_succ (st : List Int) (p q : Int) (d : Nat) (l : List Int) : srch st p q (d + 1) l = fsTo (srchF st p q d l) st.length := rfl
def resT (o : Option (List Int)) : Tn := (o.map tnOf).getD noTn
end Go.Oc
namespace Go.Proofs.YtnoahnbjdapieaaDoor
open Go.RowKit Go.Pm Go.Oc
set_option maxRecDepth 100000
set_option linter.unusedVariables false
set_option maxHeartbeats 4000000

def chH (st : List Int) (full : Bool) (p q : Int) (f : TV → Option TV) (t : Tn) : List PO :=
  [.box [.fnc 67 [4, 5, 6]], .box [.t (.int .i64 t.a), .t (.int .i64 t.b), .t (.int .i64 t.c), .t (.int .i64 t.d)], .box [.t (.sl (ints st) st.length full)], .box [.fnc 68 [0, 1, 2, 3]], .box [.t (.int .i64 q)], .box [.t (.int .i64 p)], .box [.mapr 7], .mp 107 f]
open Classical in
noncomputable def gFits (st : List Int) : List PV → List PO → Option (PV × List PO)
  | [.t s, .ptr 0 0, .ptr 1 0, .ptr 2 0], [.box [.t (.int .i64 q)], .box [.t (.int .i64 p)], .box [.mapr 3], .mp tt f] => match rowL unI s with
    | some l => if tt = 107 ∧ (∀ i : Nat, i < st.length → f (.int .i64 i) = some (.int .i64 (nthI st i))) ∧ idxOk st l = true ∧ ((0 ≤ p ∧ p ≤ 100000) ∧ 0 ≤ q ∧ q ≤ 100000) ∧ (l.length = 2 ∨ l.length = 4) then
        some (.t (.bool (fitsL st p q l)), [.box [.t (.int .i64 q)], .box [.t (.int .i64 p)], .box [.mapr 3], .mp tt f]) else none
    | none => none
  | _, _ => none
theorem gFits_ok {st : List Int} (hst : ∀ i : Int, 0 ≤ i → i < st.length → 0 ≤ nthI st i ∧ nthI st i ≤ 200) : ∀ xs hl r hl', gFits st xs hl = some (r, hl') → HCalls Tryd.prog 67 xs (getL hl) r (getL hl') := by
  intro xs hl r hl' h
  unfold gFits at h
  split at h
  · split at h
    · rename_i l hr
      have hr := rowL_some (un := unI) rfl (@unI_some) hr
      split at h
      · rename_i hc
        simp only [Option.some.injEq, Prod.mk.injEq] at h
        obtain ⟨rfl, rfl⟩ := h
        exact iFits_c _ _ hc.1 hc.2.1 hst (idxOk_at hc.2.2.1) hc.2.2.2.1.1 hc.2.2.2.1.2 hc.2.2.2.2 hr
      · cases h
    · cases h
  · cases h
/-- The contract of choose, with so many wheels to go. -/
def ChooseC (st : List Int) (full : Bool) (p q : Int) (f : TV → Option TV) (d : Nat) : Prop := ∀ (l : List Int) (s : TV) (many : Nat), IsRow ic s l → l.length + d = many → (many = 2 ∨ many = 4) → idxOk st l = true →
  HCalls Tryd.prog 68 [.t s, .t (.int .i64 many), .ptr 0 0, .ptr 1 0, .ptr 2 0, .ptr 3 0] (getL (chH st full p q f noTn)) (.t (.bool (srch st p q d l).isSome)) (getL (chH st full p q f (resT (srch st p q d l))))
open Classical in
noncomputable def gChoose (st : List Int) (full : Bool) (p q : Int) (f : TV → Option TV) (d : Nat) : List PV → List PO → Option (PV × List PO)
  | [.t s, .t (.int .i64 m), .ptr 0 0, .ptr 1 0, .ptr 2 0, .ptr 3 0], hl => match rowL unI s with
    | some l => if hl = chH st full p q f noTn ∧ m = ((l.length + d : Nat) : Int) ∧ (l.length + d = 2 ∨ l.length + d = 4) ∧ idxOk st l = true then
        some (.t (.bool (srch st p q d l).isSome), chH st full p q f (resT (srch st p q d l))) else none
    | none => none
  | _, _ => none
theorem gChoose_ok {st : List Int} {full : Bool} {p q : Int} {f : TV → Option TV} {d : Nat} (h : ChooseC st full p q f d) : ∀ xs hl r hl', gChoose st full p q f d xs hl = some (r, hl') → HCalls Tryd.prog 68 xs (getL hl) r (getL hl') := by
  intro xs hl r hl' hg
  unfold gChoose at hg
  split at hg
  · split at hg
    · rename_i l hr
      have hr := rowL_some (un := unI) rfl (@unI_some) hr
      split at hg
      · rename_i hc
        simp only [Option.some.injEq, Prod.mk.injEq] at hg
        obtain ⟨rfl, rfl⟩ := hg
        obtain ⟨rfl, rfl, h2, h3⟩ := hc
        exact h l _ _ hr rfl h2 h3
      · cases hg
    · cases hg
  · cases hg
theorem choose_zero {st : List Int} (full : Bool) {p q : Int} {f : TV → Option TV} (hf : ∀ i : Nat, i < st.length → f (.int .i64 i) = some (.int .i64 (nthI st i)))
    (hst : ∀ i : Int, 0 ≤ i → i < st.length → 0 ≤ nthI st i ∧ nthI st i ≤ 200) (hp : 0 ≤ p ∧ p ≤ 100000) (hq : 0 ≤ q ∧ q ≤ 100000) : ChooseC st full p q f 0 := by
  intro l s many hs hm h24 hidx
  have hm : l.length = many := by omega
  subst hm
  obtain ⟨fl, rfl⟩ := hs.ne (by omega)
  rw [ic_ints]
  have hfT : (∀ i : Nat, i < st.length → f (.int .i64 i) = some (.int .i64 (nthI st i))) = True := eq_true hf
  have hsr : srch st p q 0 l = if fitsL st p q l = true then some l else none := rfl
  rw [hsr]
  refine hcalls_by Tryd.mixes (Spec.oneH_ok (gFits_ok hst) noSpec_ok) (fn := Tryd.f68) Tryd.func68 rfl (by kernel_rfl) (by show 6 ≤ _; decide) ?_
  cases hft : fitsL st p q l with
  | false =>
    simp (decide := true) (maxSteps := 4000000) only [go_sem, Nat.reduceAdd, Nat.reduceSub, Nat.reduceMul, Nat.reduceDiv, Nat.reduceMod, Nat.reduceLT, Nat.reduceLeDiff, Nat.reduceEqDiff, Nat.reduceBEq, Nat.reduceBNe, Nat.reduceGT, Int.reduceAdd, Int.reduceSub, Int.reduceMul, Int.reduceNeg, Int.reduceLT, Int.reduceLE, Int.reduceEq, Int.reduceNe, Int.reduceBEq, Int.reduceBNe, Int.reduceToNat, Int.reduceGT, Int.reduceGE, ↓reduceIte, decide_true, decide_false, eq_self, Nat.mul_one, Nat.zero_mul, Nat.one_mul, Int.le_refl, Nat.le_refl, Int.cast_ofNat_Int, Tryd.f68, chH, noTn, resT, beq_self_eq_true, gFits, unI_eq, hfT, hidx, hp, hq, h24, hft, Option.map_none, Option.getD_none]
    first | done | exact ⟨_, rfl, rfl⟩
  | true =>
    match l, h24, hft, hidx with
    | [a, b], _, hft, hidx =>
      simp (decide := true) (maxSteps := 4000000) only [go_sem, Nat.reduceAdd, Nat.reduceSub, Nat.reduceMul, Nat.reduceDiv, Nat.reduceMod, Nat.reduceLT, Nat.reduceLeDiff, Nat.reduceEqDiff, Nat.reduceBEq, Nat.reduceBNe, Nat.reduceGT, Int.reduceAdd, Int.reduceSub, Int.reduceMul, Int.reduceNeg, Int.reduceLT, Int.reduceLE, Int.reduceEq, Int.reduceNe, Int.reduceBEq, Int.reduceBNe, Int.reduceToNat, Int.reduceGT, Int.reduceGE, ↓reduceIte, decide_true, decide_false, eq_self, Nat.mul_one, Nat.zero_mul, Nat.one_mul, Int.le_refl, Nat.le_refl, Int.cast_ofNat_Int, Tryd.f68, chH, noTn, resT, beq_self_eq_true, gFits, unI_eq, hfT, hidx, hp, hq, hft, ints, unI, tnOf]
      first | done | exact ⟨_, rfl, rfl⟩
    | [a, b, c, d], _, hft, hidx =>
      simp (decide := true) (maxSteps := 4000000) only [go_sem, Nat.reduceAdd, Nat.reduceSub, Nat.reduceMul, Nat.reduceDiv, Nat.reduceMod, Nat.reduceLT, Nat.reduceLeDiff, Nat.reduceEqDiff, Nat.reduceBEq, Nat.reduceBNe, Nat.reduceGT, Int.reduceAdd, Int.reduceSub, Int.reduceMul, Int.reduceNeg, Int.reduceLT, Int.reduceLE, Int.reduceEq, Int.reduceNe, Int.reduceBEq, Int.reduceBNe, Int.reduceToNat, Int.reduceGT, Int.reduceGE, ↓reduceIte, decide_true, decide_false, eq_self, Nat.mul_one, Nat.zero_mul, Nat.one_mul, Int.le_refl, Nat.le_refl, Int.cast_ofNat_Int, Tryd.f68, chH, noTn, resT, beq_self_eq_true, gFits, unI_eq, hfT, hidx, hp, hq, hft, ints, unI, tnOf]
      first | done | exact ⟨_, rfl, rfl⟩
theorem unI_snoc (l : List Int) (x : Int) : unI (ints l ++ [.int .i64 x]) = some (l ++ [x]) := by rw [← ints_snoc]; exact unI_eq _
theorem choose_succ {st : List Int} (full : Bool) {p q : Int} {f : TV → Option TV} (hs10 : st.length ≤ 10) {d : Nat} (ih : ChooseC st full p q f d) : ChooseC st full p q f (d + 1) := by
  intro l s many hs hm h24 hidx
  have hne : ((l.length : Int) == (many : Int)) = false := beq_int_f (by omega)
  have hl4 : l.length ≤ 3 := by omega
  rw [srch_succ]
  have hmE : ((many : Int) = ((l.length + 1 + d : Nat) : Int)) = True := eq_true (by omega)
  have h2E : (l.length + 1 + d = 2 ∨ l.length + 1 + d = 4) = True := eq_true (by omega)
  refine hcalls_by Tryd.mixes (Spec.oneH_ok (gChoose_ok ih) noSpec_ok) (fn := Tryd.f68) Tryd.func68 rfl (by kernel_rfl) (by show 6 ≤ _; decide) ?_
  have inv : ∀ i : Nat, i < st.length → idxOk st (l ++ [(i : Int)]) = true := fun i hi => by
    unfold idxOk at hidx ⊢
    rw [List.all_append, hidx]
    simp [inB]; omega
  rcases hs with ⟨rfl, rfl⟩ | ⟨fl, rfl⟩
  · simp only [List.length_nil, Int.cast_ofNat_Int, Nat.zero_add] at hne hmE h2E
    simp (decide := true) (maxSteps := 4000000) only [go_sem, Nat.reduceAdd, Nat.reduceSub, Nat.reduceMul, Nat.reduceDiv, Nat.reduceMod, Nat.reduceLT, Nat.reduceLeDiff, Nat.reduceEqDiff, Nat.reduceBEq, Nat.reduceBNe, Nat.reduceGT, Int.reduceAdd, Int.reduceSub, Int.reduceMul, Int.reduceNeg, Int.reduceLT, Int.reduceLE, Int.reduceEq, Int.reduceNe, Int.reduceBEq, Int.reduceBNe, Int.reduceToNat, Int.reduceGT, Int.reduceGE, ↓reduceIte, decide_true, decide_false, eq_self, Nat.mul_one, Nat.zero_mul, Nat.one_mul, Int.le_refl, Nat.le_refl, Int.cast_ofNat_Int, Tryd.f68, chH, noTn, hne]
    refine pwpC_loopU (A := { i : Nat // i ≤ st.length ∧ fsTo (srchF st p q d []) i = none }) [0, 1, 2, 3, 4, 5, 8, 39] (fun i => [(40, .t (.int .i64 i.1))]) (fun _ => []) (fun i => st.length - i.1) ⟨0, by omega, rfl⟩ (by decide) (fun _ => by rfl) ?_ fun Q1 hQ1 ⟨i, hi, hno⟩ I1 hI1 => ?_
    · simp (decide := true) (maxSteps := 4000000) only [go_sem, Nat.reduceAdd, Nat.reduceSub, Nat.reduceMul, Nat.reduceDiv, Nat.reduceMod, Nat.reduceLT, Nat.reduceLeDiff, Nat.reduceEqDiff, Nat.reduceBEq, Nat.reduceBNe, Nat.reduceGT, Int.reduceAdd, Int.reduceSub, Int.reduceMul, Int.reduceNeg, Int.reduceLT, Int.reduceLE, Int.reduceEq, Int.reduceNe, Int.reduceBEq, Int.reduceBNe, Int.reduceToNat, Int.reduceGT, Int.reduceGE, ↓reduceIte, decide_true, decide_false, eq_self, Nat.mul_one, Nat.zero_mul, Nat.one_mul, Int.le_refl, Nat.le_refl, Int.cast_ofNat_Int]
    · by_cases hlt : (i : Int) < st.length
      · have hi1 : IntKind.i64.wrap (i + 1) = ((i + 1 : Nat) : Int) := by rw [wrap_in (by omega) (by omega)]; omega
        simp (decide := true) (maxSteps := 4000000) only [go_sem, Nat.reduceAdd, Nat.reduceSub, Nat.reduceMul, Nat.reduceDiv, Nat.reduceMod, Nat.reduceLT, Nat.reduceLeDiff, Nat.reduceEqDiff, Nat.reduceBEq, Nat.reduceBNe, Nat.reduceGT, Int.reduceAdd, Int.reduceSub, Int.reduceMul, Int.reduceNeg, Int.reduceLT, Int.reduceLE, Int.reduceEq, Int.reduceNe, Int.reduceBEq, Int.reduceBNe, Int.reduceToNat, Int.reduceGT, Int.reduceGE, ↓reduceIte, decide_true, decide_false, eq_self, Nat.mul_one, Nat.zero_mul, Nat.one_mul, Int.le_refl, Nat.le_refl, Int.cast_ofNat_Int, hlt]
        refine pwpC_loopU (A := Unit) [0, 1, 2, 3, 4, 5, 8, 9, 39, 40, 43, 44] (fun _ => [(45, .t (.int .i64 0))]) (fun _ => []) (fun _ => 0) () (by decide) (fun _ => by rfl) ?_ fun Q2 hQ2 _ I2 hI2 => ?_
        · simp (decide := true) (maxSteps := 4000000) only [go_sem, Nat.reduceAdd, Nat.reduceSub, Nat.reduceMul, Nat.reduceDiv, Nat.reduceMod, Nat.reduceLT, Nat.reduceLeDiff, Nat.reduceEqDiff, Nat.reduceBEq, Nat.reduceBNe, Nat.reduceGT, Int.reduceAdd, Int.reduceSub, Int.reduceMul, Int.reduceNeg, Int.reduceLT, Int.reduceLE, Int.reduceEq, Int.reduceNe, Int.reduceBEq, Int.reduceBNe, Int.reduceToNat, Int.reduceGT, Int.reduceGE, ↓reduceIte, decide_true, decide_false, eq_self, Nat.mul_one, Nat.zero_mul, Nat.one_mul, Int.le_refl, Nat.le_refl, Int.cast_ofNat_Int]
        · simp (decide := true) (maxSteps := 4000000) only [go_sem, Nat.reduceAdd, Nat.reduceSub, Nat.reduceMul, Nat.reduceDiv, Nat.reduceMod, Nat.reduceLT, Nat.reduceLeDiff, Nat.reduceEqDiff, Nat.reduceBEq, Nat.reduceBNe, Nat.reduceGT, Int.reduceAdd, Int.reduceSub, Int.reduceMul, Int.reduceNeg, Int.reduceLT, Int.reduceLE, Int.reduceEq, Int.reduceNe, Int.reduceBEq, Int.reduceBNe, Int.reduceToNat, Int.reduceGT, Int.reduceGE, ↓reduceIte, decide_true, decide_false, eq_self, Nat.mul_one, Nat.zero_mul, Nat.one_mul, Int.le_refl, Nat.le_refl, Int.cast_ofNat_Int]
          refine hQ2 _ _ ?_
          have hsf : srchF st p q d [] i = srch st p q d [(i : Int)] := by unfold srchF; rw [if_neg (by simp)]; rfl
          have hii := inv i (by omega)
          rw [List.nil_append] at hii
          cases hsr : srch st p q d [(i : Int)] with
          | none =>
            rw [hsr] at hsf
            simp (decide := true) (maxSteps := 4000000) only [go_sem, Nat.reduceAdd, Nat.reduceSub, Nat.reduceMul, Nat.reduceDiv, Nat.reduceMod, Nat.reduceLT, Nat.reduceLeDiff, Nat.reduceEqDiff, Nat.reduceBEq, Nat.reduceBNe, Nat.reduceGT, Int.reduceAdd, Int.reduceSub, Int.reduceMul, Int.reduceNeg, Int.reduceLT, Int.reduceLE, Int.reduceEq, Int.reduceNe, Int.reduceBEq, Int.reduceBNe, Int.reduceToNat, Int.reduceGT, Int.reduceGE, ↓reduceIte, decide_true, decide_false, eq_self, Nat.mul_one, Nat.zero_mul, Nat.one_mul, Int.le_refl, Nat.le_refl, Int.cast_ofNat_Int, gChoose, unI, chH, noTn, hsr, resT, hmE, h2E, hii, Option.map_none, Option.getD_none]
            refine hI1 _ ⟨i + 1, by omega, by rw [fsTo_succ, hno]; exact hsf⟩ (by simp only; omega) ?_
            simp (decide := true) (maxSteps := 4000000) only [go_sem, Nat.reduceAdd, Nat.reduceSub, Nat.reduceMul, Nat.reduceDiv, Nat.reduceMod, Nat.reduceLT, Nat.reduceLeDiff, Nat.reduceEqDiff, Nat.reduceBEq, Nat.reduceBNe, Nat.reduceGT, Int.reduceAdd, Int.reduceSub, Int.reduceMul, Int.reduceNeg, Int.reduceLT, Int.reduceLE, Int.reduceEq, Int.reduceNe, Int.reduceBEq, Int.reduceBNe, Int.reduceToNat, Int.reduceGT, Int.reduceGE, ↓reduceIte, decide_true, decide_false, eq_self, Nat.mul_one, Nat.zero_mul, Nat.one_mul, Int.le_refl, Nat.le_refl, Int.cast_ofNat_Int, hi1]
          | some L =>
            rw [hsr] at hsf
            have hall := fsTo_hit hno (show i < st.length by omega) hsf
            simp (decide := true) (maxSteps := 4000000) only [go_sem, Nat.reduceAdd, Nat.reduceSub, Nat.reduceMul, Nat.reduceDiv, Nat.reduceMod, Nat.reduceLT, Nat.reduceLeDiff, Nat.reduceEqDiff, Nat.reduceBEq, Nat.reduceBNe, Nat.reduceGT, Int.reduceAdd, Int.reduceSub, Int.reduceMul, Int.reduceNeg, Int.reduceLT, Int.reduceLE, Int.reduceEq, Int.reduceNe, Int.reduceBEq, Int.reduceBNe, Int.reduceToNat, Int.reduceGT, Int.reduceGE, ↓reduceIte, decide_true, decide_false, eq_self, Nat.mul_one, Nat.zero_mul, Nat.one_mul, Int.le_refl, Nat.le_refl, Int.cast_ofNat_Int, gChoose, unI, chH, noTn, hsr, resT, hmE, h2E, hii]
            try (refine hQ1 _ _ ?_)
            try simp (decide := true) (maxSteps := 4000000) only [go_sem, Nat.reduceAdd, Nat.reduceSub, Nat.reduceMul, Nat.reduceDiv, Nat.reduceMod, Nat.reduceLT, Nat.reduceLeDiff, Nat.reduceEqDiff, Nat.reduceBEq, Nat.reduceBNe, Nat.reduceGT, Int.reduceAdd, Int.reduceSub, Int.reduceMul, Int.reduceNeg, Int.reduceLT, Int.reduceLE, Int.reduceEq, Int.reduceNe, Int.reduceBEq, Int.reduceBNe, Int.reduceToNat, Int.reduceGT, Int.reduceGE, ↓reduceIte, decide_true, decide_false, eq_self, Nat.mul_one, Nat.zero_mul, Nat.one_mul, Int.le_refl, Nat.le_refl, Int.cast_ofNat_Int]
            rw [hall]
            first | exact ⟨_, rfl, rfl⟩ | exact ⟨_, rfl, rfl, rfl, rfl, rfl, rfl⟩
      · have hie : i = st.length := by omega
        subst hie
        simp (decide := true) (maxSteps := 4000000) only [go_sem, Nat.reduceAdd, Nat.reduceSub, Nat.reduceMul, Nat.reduceDiv, Nat.reduceMod, Nat.reduceLT, Nat.reduceLeDiff, Nat.reduceEqDiff, Nat.reduceBEq, Nat.reduceBNe, Nat.reduceGT, Int.reduceAdd, Int.reduceSub, Int.reduceMul, Int.reduceNeg, Int.reduceLT, Int.reduceLE, Int.reduceEq, Int.reduceNe, Int.reduceBEq, Int.reduceBNe, Int.reduceToNat, Int.reduceGT, Int.reduceGE, ↓reduceIte, decide_true, decide_false, eq_self, Nat.mul_one, Nat.zero_mul, Nat.one_mul, Int.le_refl, Nat.le_refl, Int.cast_ofNat_Int, hlt]
        refine hQ1 _ _ ?_
        simp (decide := true) (maxSteps := 4000000) only [go_sem, Nat.reduceAdd, Nat.reduceSub, Nat.reduceMul, Nat.reduceDiv, Nat.reduceMod, Nat.reduceLT, Nat.reduceLeDiff, Nat.reduceEqDiff, Nat.reduceBEq, Nat.reduceBNe, Nat.reduceGT, Int.reduceAdd, Int.reduceSub, Int.reduceMul, Int.reduceNeg, Int.reduceLT, Int.reduceLE, Int.reduceEq, Int.reduceNe, Int.reduceBEq, Int.reduceBNe, Int.reduceToNat, Int.reduceGT, Int.reduceGE, ↓reduceIte, decide_true, decide_false, eq_self, Nat.mul_one, Nat.zero_mul, Nat.one_mul, Int.le_refl, Nat.le_refl, Int.cast_ofNat_Int]
        rw [hno]
        first | exact ⟨_, rfl, rfl⟩ | exact ⟨_, rfl, rfl, rfl, rfl, rfl, rfl⟩
  · rw [ic_ints]
    simp (decide := true) (maxSteps := 4000000) only [go_sem, Nat.reduceAdd, Nat.reduceSub, Nat.reduceMul, Nat.reduceDiv, Nat.reduceMod, Nat.reduceLT, Nat.reduceLeDiff, Nat.reduceEqDiff, Nat.reduceBEq, Nat.reduceBNe, Nat.reduceGT, Int.reduceAdd, Int.reduceSub, Int.reduceMul, Int.reduceNeg, Int.reduceLT, Int.reduceLE, Int.reduceEq, Int.reduceNe, Int.reduceBEq, Int.reduceBNe, Int.reduceToNat, Int.reduceGT, Int.reduceGE, ↓reduceIte, decide_true, decide_false, eq_self, Nat.mul_one, Nat.zero_mul, Nat.one_mul, Int.le_refl, Nat.le_refl, Int.cast_ofNat_Int, Tryd.f68, chH, noTn, hne]
    refine pwpC_loopU (A := { i : Nat // i ≤ st.length ∧ fsTo (srchF st p q d l) i = none }) [0, 1, 2, 3, 4, 5, 8, 39] (fun i => [(40, .t (.int .i64 i.1))]) (fun _ => []) (fun i => st.length - i.1) ⟨0, by omega, rfl⟩ (by decide) (fun _ => by rfl) ?_ fun Q1 hQ1 ⟨i, hi, hno⟩ I1 hI1 => ?_
    · simp (decide := true) (maxSteps := 4000000) only [go_sem, Nat.reduceAdd, Nat.reduceSub, Nat.reduceMul, Nat.reduceDiv, Nat.reduceMod, Nat.reduceLT, Nat.reduceLeDiff, Nat.reduceEqDiff, Nat.reduceBEq, Nat.reduceBNe, Nat.reduceGT, Int.reduceAdd, Int.reduceSub, Int.reduceMul, Int.reduceNeg, Int.reduceLT, Int.reduceLE, Int.reduceEq, Int.reduceNe, Int.reduceBEq, Int.reduceBNe, Int.reduceToNat, Int.reduceGT, Int.reduceGE, ↓reduceIte, decide_true, decide_false, eq_self, Nat.mul_one, Nat.zero_mul, Nat.one_mul, Int.le_refl, Nat.le_refl, Int.cast_ofNat_Int]
    · by_cases hlt : (i : Int) < st.length
      · have hi1 : IntKind.i64.wrap (i + 1) = ((i + 1 : Nat) : Int) := by rw [wrap_in (by omega) (by omega)]; omega
        simp (decide := true) (maxSteps := 4000000) only [go_sem, Nat.reduceAdd, Nat.reduceSub, Nat.reduceMul, Nat.reduceDiv, Nat.reduceMod, Nat.reduceLT, Nat.reduceLeDiff, Nat.reduceEqDiff, Nat.reduceBEq, Nat.reduceBNe, Nat.reduceGT, Int.reduceAdd, Int.reduceSub, Int.reduceMul, Int.reduceNeg, Int.reduceLT, Int.reduceLE, Int.reduceEq, Int.reduceNe, Int.reduceBEq, Int.reduceBNe, Int.reduceToNat, Int.reduceGT, Int.reduceGE, ↓reduceIte, decide_true, decide_false, eq_self, Nat.mul_one, Nat.zero_mul, Nat.one_mul, Int.le_refl, Nat.le_refl, Int.cast_ofNat_Int, hlt]
        refine pwpC_loopU (A := { j : Nat // j ≤ l.length ∧ (l.take j).contains (i : Int) = false }) [0, 1, 2, 3, 4, 5, 8, 9, 39, 40, 43, 44] (fun j => [(45, .t (.int .i64 j.1))]) (fun _ => []) (fun j => l.length - j.1) ⟨0, by omega, rfl⟩ (by decide) (fun _ => by rfl) ?_ fun Q2 hQ2 ⟨j, hj, hnc⟩ I2 hI2 => ?_
        · simp (decide := true) (maxSteps := 4000000) only [go_sem, Nat.reduceAdd, Nat.reduceSub, Nat.reduceMul, Nat.reduceDiv, Nat.reduceMod, Nat.reduceLT, Nat.reduceLeDiff, Nat.reduceEqDiff, Nat.reduceBEq, Nat.reduceBNe, Nat.reduceGT, Int.reduceAdd, Int.reduceSub, Int.reduceMul, Int.reduceNeg, Int.reduceLT, Int.reduceLE, Int.reduceEq, Int.reduceNe, Int.reduceBEq, Int.reduceBNe, Int.reduceToNat, Int.reduceGT, Int.reduceGE, ↓reduceIte, decide_true, decide_false, eq_self, Nat.mul_one, Nat.zero_mul, Nat.one_mul, Int.le_refl, Nat.le_refl, Int.cast_ofNat_Int]
        · by_cases hlt2 : (j : Int) < l.length
          · obtain ⟨o, ho⟩ := get_lt hlt2
            have hd := ints_at ho
            rw [Nat.mul_one] at hd
            have hj1 : IntKind.i64.wrap (j + 1) = ((j + 1 : Nat) : Int) := by rw [wrap_in (by omega) (by omega)]; omega
            by_cases hoi : o = (i : Int)
            · have hoi' : (o == (i : Int)) = true := beq_int_t hoi
              have hcon : l.contains (i : Int) = true := by
                rw [List.contains_iff_mem]; rw [← hoi]; exact List.mem_of_getElem? ho
              have hsf : srchF st p q d l i = none := by unfold srchF; rw [if_pos hcon]
              simp (decide := true) (maxSteps := 4000000) only [go_sem, Nat.reduceAdd, Nat.reduceSub, Nat.reduceMul, Nat.reduceDiv, Nat.reduceMod, Nat.reduceLT, Nat.reduceLeDiff, Nat.reduceEqDiff, Nat.reduceBEq, Nat.reduceBNe, Nat.reduceGT, Int.reduceAdd, Int.reduceSub, Int.reduceMul, Int.reduceNeg, Int.reduceLT, Int.reduceLE, Int.reduceEq, Int.reduceNe, Int.reduceBEq, Int.reduceBNe, Int.reduceToNat, Int.reduceGT, Int.reduceGE, ↓reduceIte, decide_true, decide_false, eq_self, Nat.mul_one, Nat.zero_mul, Nat.one_mul, Int.le_refl, Nat.le_refl, Int.cast_ofNat_Int, hlt2, hd, hoi']
              try (refine hQ2 _ _ ?_)
              try simp (decide := true) (maxSteps := 4000000) only [go_sem, Nat.reduceAdd, Nat.reduceSub, Nat.reduceMul, Nat.reduceDiv, Nat.reduceMod, Nat.reduceLT, Nat.reduceLeDiff, Nat.reduceEqDiff, Nat.reduceBEq, Nat.reduceBNe, Nat.reduceGT, Int.reduceAdd, Int.reduceSub, Int.reduceMul, Int.reduceNeg, Int.reduceLT, Int.reduceLE, Int.reduceEq, Int.reduceNe, Int.reduceBEq, Int.reduceBNe, Int.reduceToNat, Int.reduceGT, Int.reduceGE, ↓reduceIte, decide_true, decide_false, eq_self, Nat.mul_one, Nat.zero_mul, Nat.one_mul, Int.le_refl, Nat.le_refl, Int.cast_ofNat_Int]
              refine hI1 _ ⟨i + 1, by omega, by rw [fsTo_succ, hno]; exact hsf⟩ (by simp only; omega) ?_
              simp (decide := true) (maxSteps := 4000000) only [go_sem, Nat.reduceAdd, Nat.reduceSub, Nat.reduceMul, Nat.reduceDiv, Nat.reduceMod, Nat.reduceLT, Nat.reduceLeDiff, Nat.reduceEqDiff, Nat.reduceBEq, Nat.reduceBNe, Nat.reduceGT, Int.reduceAdd, Int.reduceSub, Int.reduceMul, Int.reduceNeg, Int.reduceLT, Int.reduceLE, Int.reduceEq, Int.reduceNe, Int.reduceBEq, Int.reduceBNe, Int.reduceToNat, Int.reduceGT, Int.reduceGE, ↓reduceIte, decide_true, decide_false, eq_self, Nat.mul_one, Nat.zero_mul, Nat.one_mul, Int.le_refl, Nat.le_refl, Int.cast_ofNat_Int, hi1]
            · have hoi' : (o == (i : Int)) = false := beq_int_f hoi
              have hnc' : (l.take (j + 1)).contains (i : Int) = false := by
                rw [take_snoc ho]
                rw [Bool.eq_false_iff, ne_eq, List.contains_iff_mem] at hnc ⊢
                intro h
                rcases List.mem_append.1 h with h | h
                · exact hnc h
                · simp at h; exact hoi h.symm
              simp (decide := true) (maxSteps := 4000000) only [go_sem, Nat.reduceAdd, Nat.reduceSub, Nat.reduceMul, Nat.reduceDiv, Nat.reduceMod, Nat.reduceLT, Nat.reduceLeDiff, Nat.reduceEqDiff, Nat.reduceBEq, Nat.reduceBNe, Nat.reduceGT, Int.reduceAdd, Int.reduceSub, Int.reduceMul, Int.reduceNeg, Int.reduceLT, Int.reduceLE, Int.reduceEq, Int.reduceNe, Int.reduceBEq, Int.reduceBNe, Int.reduceToNat, Int.reduceGT, Int.reduceGE, ↓reduceIte, decide_true, decide_false, eq_self, Nat.mul_one, Nat.zero_mul, Nat.one_mul, Int.le_refl, Nat.le_refl, Int.cast_ofNat_Int, hlt2, hd, hoi']
              refine hI2 _ ⟨j + 1, by omega, hnc'⟩ (by simp only; omega) ?_
              simp (decide := true) (maxSteps := 4000000) only [go_sem, Nat.reduceAdd, Nat.reduceSub, Nat.reduceMul, Nat.reduceDiv, Nat.reduceMod, Nat.reduceLT, Nat.reduceLeDiff, Nat.reduceEqDiff, Nat.reduceBEq, Nat.reduceBNe, Nat.reduceGT, Int.reduceAdd, Int.reduceSub, Int.reduceMul, Int.reduceNeg, Int.reduceLT, Int.reduceLE, Int.reduceEq, Int.reduceNe, Int.reduceBEq, Int.reduceBNe, Int.reduceToNat, Int.reduceGT, Int.reduceGE, ↓reduceIte, decide_true, decide_false, eq_self, Nat.mul_one, Nat.zero_mul, Nat.one_mul, Int.le_refl, Nat.le_refl, Int.cast_ofNat_Int, hj1]
          · have hje : j = l.length := by omega
            subst hje
            rw [List.take_length] at hnc
            have hsf : srchF st p q d l i = srch st p q d (l ++ [(i : Int)]) := by unfold srchF; rw [if_neg (by rw [hnc]; simp)]
            have hii := inv i (by omega)
            have hun := unI_snoc l i
            have htk : List.take l.length (ints l) = ints l := List.take_of_length_le (by rw [ints_len]; omega)
            have hil := ints_len l
            have hroom : (l.length + 1) * 8 ≤ 140737488355328 := by omega
            simp (decide := true) (maxSteps := 4000000) only [go_sem, Nat.reduceAdd, Nat.reduceSub, Nat.reduceMul, Nat.reduceDiv, Nat.reduceMod, Nat.reduceLT, Nat.reduceLeDiff, Nat.reduceEqDiff, Nat.reduceBEq, Nat.reduceBNe, Nat.reduceGT, Int.reduceAdd, Int.reduceSub, Int.reduceMul, Int.reduceNeg, Int.reduceLT, Int.reduceLE, Int.reduceEq, Int.reduceNe, Int.reduceBEq, Int.reduceBNe, Int.reduceToNat, Int.reduceGT, Int.reduceGE, ↓reduceIte, decide_true, decide_false, eq_self, Nat.mul_one, Nat.zero_mul, Nat.one_mul, Int.le_refl, Nat.le_refl, Int.cast_ofNat_Int, hlt2]
            refine hQ2 _ _ ?_
            cases hsr : srch st p q d (l ++ [(i : Int)]) with
            | none =>
              rw [hsr] at hsf
              simp (decide := true) (maxSteps := 4000000) only [go_sem, Nat.reduceAdd, Nat.reduceSub, Nat.reduceMul, Nat.reduceDiv, Nat.reduceMod, Nat.reduceLT, Nat.reduceLeDiff, Nat.reduceEqDiff, Nat.reduceBEq, Nat.reduceBNe, Nat.reduceGT, Int.reduceAdd, Int.reduceSub, Int.reduceMul, Int.reduceNeg, Int.reduceLT, Int.reduceLE, Int.reduceEq, Int.reduceNe, Int.reduceBEq, Int.reduceBNe, Int.reduceToNat, Int.reduceGT, Int.reduceGE, ↓reduceIte, decide_true, decide_false, eq_self, Nat.mul_one, Nat.zero_mul, Nat.one_mul, Int.le_refl, Nat.le_refl, Int.cast_ofNat_Int, htk, hil, hroom, allO_t1, gChoose, hun, List.length_append, chH, noTn, hsr, resT, hmE, h2E, hii, Option.map_none, Option.getD_none]
              refine hI1 _ ⟨i + 1, by omega, by rw [fsTo_succ, hno]; exact hsf⟩ (by simp only; omega) ?_
              simp (decide := true) (maxSteps := 4000000) only [go_sem, Nat.reduceAdd, Nat.reduceSub, Nat.reduceMul, Nat.reduceDiv, Nat.reduceMod, Nat.reduceLT, Nat.reduceLeDiff, Nat.reduceEqDiff, Nat.reduceBEq, Nat.reduceBNe, Nat.reduceGT, Int.reduceAdd, Int.reduceSub, Int.reduceMul, Int.reduceNeg, Int.reduceLT, Int.reduceLE, Int.reduceEq, Int.reduceNe, Int.reduceBEq, Int.reduceBNe, Int.reduceToNat, Int.reduceGT, Int.reduceGE, ↓reduceIte, decide_true, decide_false, eq_self, Nat.mul_one, Nat.zero_mul, Nat.one_mul, Int.le_refl, Nat.le_refl, Int.cast_ofNat_Int, hi1]
            | some L =>
              rw [hsr] at hsf
              have hall := fsTo_hit hno (show i < st.length by omega) hsf
              simp (decide := true) (maxSteps := 4000000) only [go_sem, Nat.reduceAdd, Nat.reduceSub, Nat.reduceMul, Nat.reduceDiv, Nat.reduceMod, Nat.reduceLT, Nat.reduceLeDiff, Nat.reduceEqDiff, Nat.reduceBEq, Nat.reduceBNe, Nat.reduceGT, Int.reduceAdd, Int.reduceSub, Int.reduceMul, Int.reduceNeg, Int.reduceLT, Int.reduceLE, Int.reduceEq, Int.reduceNe, Int.reduceBEq, Int.reduceBNe, Int.reduceToNat, Int.reduceGT, Int.reduceGE, ↓reduceIte, decide_true, decide_false, eq_self, Nat.mul_one, Nat.zero_mul, Nat.one_mul, Int.le_refl, Nat.le_refl, Int.cast_ofNat_Int, htk, hil, hroom, allO_t1, gChoose, hun, List.length_append, chH, noTn, hsr, resT, hmE, h2E, hii]
              try (refine hQ1 _ _ ?_)
              try simp (decide := true) (maxSteps := 4000000) only [go_sem, Nat.reduceAdd, Nat.reduceSub, Nat.reduceMul, Nat.reduceDiv, Nat.reduceMod, Nat.reduceLT, Nat.reduceLeDiff, Nat.reduceEqDiff, Nat.reduceBEq, Nat.reduceBNe, Nat.reduceGT, Int.reduceAdd, Int.reduceSub, Int.reduceMul, Int.reduceNeg, Int.reduceLT, Int.reduceLE, Int.reduceEq, Int.reduceNe, Int.reduceBEq, Int.reduceBNe, Int.reduceToNat, Int.reduceGT, Int.reduceGE, ↓reduceIte, decide_true, decide_false, eq_self, Nat.mul_one, Nat.zero_mul, Nat.one_mul, Int.le_refl, Nat.le_refl, Int.cast_ofNat_Int]
              rw [hall]
              first | exact ⟨_, rfl, rfl⟩ | exact ⟨_, rfl, rfl, rfl, rfl, rfl, rfl⟩
      · have hie : i = st.length := by omega
        subst hie
        simp (decide := true) (maxSteps := 4000000) only [go_sem, Nat.reduceAdd, Nat.reduceSub, Nat.reduceMul, Nat.reduceDiv, Nat.reduceMod, Nat.reduceLT, Nat.reduceLeDiff, Nat.reduceEqDiff, Nat.reduceBEq, Nat.reduceBNe, Nat.reduceGT, Int.reduceAdd, Int.reduceSub, Int.reduceMul, Int.reduceNeg, Int.reduceLT, Int.reduceLE, Int.reduceEq, Int.reduceNe, Int.reduceBEq, Int.reduceBNe, Int.reduceToNat, Int.reduceGT, Int.reduceGE, ↓reduceIte, decide_true, decide_false, eq_self, Nat.mul_one, Nat.zero_mul, Nat.one_mul, Int.le_refl, Nat.le_refl, Int.cast_ofNat_Int, hlt]
        refine hQ1 _ _ ?_
        simp (decide := true) (maxSteps := 4000000) only [go_sem, Nat.reduceAdd, Nat.reduceSub, Nat.reduceMul, Nat.reduceDiv, Nat.reduceMod, Nat.reduceLT, Nat.reduceLeDiff, Nat.reduceEqDiff, Nat.reduceBEq, Nat.reduceBNe, Nat.reduceGT, Int.reduceAdd, Int.reduceSub, Int.reduceMul, Int.reduceNeg, Int.reduceLT, Int.reduceLE, Int.reduceEq, Int.reduceNe, Int.reduceBEq, Int.reduceBNe, Int.reduceToNat, Int.reduceGT, Int.reduceGE, ↓reduceIte, decide_true, decide_false, eq_self, Nat.mul_one, Nat.zero_mul, Nat.one_mul, Int.le_refl, Nat.le_refl, Int.cast_ofNat_Int]
        rw [hno]
        first | exact ⟨_, rfl, rfl⟩ | exact ⟨_, rfl, rfl, rfl, rfl, rfl, rfl⟩
theorem choose_all {st : List Int} (full : Bool) {p q : Int} {f : TV → Option TV} (hs10 : st.length ≤ 10) (hf : ∀ i : Nat, i < st.length → f (.int .i64 i) = some (.int .i64 (nthI st i)))
    (hst : ∀ i : Int, 0 ≤ i → i < st.length → 0 ≤ nthI st i ∧ nthI st i ≤ 200) (hp : 0 ≤ p ∧ p ≤ 100000) (hq : 0 ≤ q ∧ q ≤ 100000) : ∀ d, ChooseC st full p q f d
  | 0 => choose_zero full hf hst hp hq
  | d + 1 => choose_succ full hs10 (choose_all full hs10 hf hst hp hq d)
open Classical in
/-- Both calls: from the very start. -/
noncomputable def gChoose0 (st : List Int) : List PV → List PO → Option (PV × List PO)
  | [.t .nilSl, .t (.int .i64 m), .ptr 0 0, .ptr 1 0, .ptr 2 0, .ptr 3 0], [.box [.fnc F [4, 5, 6]], .box [.t (.int .i64 a), .t (.int .i64 b), .t (.int .i64 c), .t (.int .i64 d)], .box [.t (.sl cs n full)], .box [.fnc G [0, 1, 2, 3]], .box [.t (.int .i64 q)], .box [.t (.int .i64 p)], .box [.mapr 7], .mp tt f] =>
    if (F = 67 ∧ G = 68 ∧ cs = ints st ∧ n = st.length ∧ tt = 107) ∧ (a = -1 ∧ b = -1 ∧ c = -1 ∧ d = -1) ∧ (∀ i : Nat, i < st.length → f (.int .i64 i) = some (.int .i64 (nthI st i))) ∧ ((0 ≤ p ∧ p ≤ 100000) ∧ 0 ≤ q ∧ q ≤ 100000) ∧ (m = 2 ∨ m = 4) then
      some (.t (.bool (srch st p q m.toNat []).isSome), chH st full p q f (resT (srch st p q m.toNat []))) else none
  | _, _ => none
theorem gChoose0_ok {st : List Int} (hs10 : st.length ≤ 10) (hst : ∀ i : Int, 0 ≤ i → i < st.length → 0 ≤ nthI st i ∧ nthI st i ≤ 200) : ∀ xs hl r hl', gChoose0 st xs hl = some (r, hl') → HCalls Tryd.prog 68 xs (getL hl) r (getL hl') := by
  intro xs hl r hl' hg
  unfold gChoose0 at hg
  split at hg
  · split at hg
    · rename_i hc
      simp only [Option.some.injEq, Prod.mk.injEq] at hg
      obtain ⟨rfl, rfl⟩ := hg
      obtain ⟨⟨rfl, rfl, rfl, rfl, rfl⟩, ⟨rfl, rfl, rfl, rfl⟩, h1, h2, h3⟩ := hc
      rcases h3 with rfl | rfl
      · exact choose_all _ hs10 h1 hst h2.1 h2.2 2 [] .nilSl 2 (.inl ⟨rfl, rfl⟩) rfl (.inl rfl) rfl
      · exact choose_all _ hs10 h1 hst h2.1 h2.2 4 [] .nilSl 4 (.inl ⟨rfl, rfl⟩) rfl (.inr rfl) rfl
    · cases hg
  · cases hg
theorem iTrain_c {st : List Int} (full : Bool) (hok : stockOk1 st = true) {p q : Int} (hp : 0 ≤ p ∧ p ≤ 100000) (hq : 0 ≤ q ∧ q ≤ 100000) : PCalls Tryd.prog 58 [.sl (ints st) st.length full, .int .i64 p, .int .i64 q] ((trainP st p q).getD noTn).tv := by
  have hok' := stockOk1_iff.1 hok
  have hst : ∀ i : Int, 0 ≤ i → i < st.length → 0 ≤ nthI st i ∧ nthI st i ≤ 200 := fun i h1 h2 => by
    have := hok'.2 _ (List.mem_of_getElem? (nthI_of h1 h2)); omega
  refine pcalls_by Tryd.mixes (Spec.oneH_ok (gChoose0_ok (by omega) hst) noSpec_ok) (fn := Tryd.f58) Tryd.func58 rfl (by kernel_rfl) (by show 3 ≤ _; decide) ?_
  simp (decide := true) (maxSteps := 4000000) only [go_sem, Nat.reduceAdd, Nat.reduceSub, Nat.reduceMul, Nat.reduceDiv, Nat.reduceMod, Nat.reduceLT, Nat.reduceLeDiff, Nat.reduceEqDiff, Nat.reduceBEq, Nat.reduceBNe, Nat.reduceGT, Int.reduceAdd, Int.reduceSub, Int.reduceMul, Int.reduceNeg, Int.reduceLT, Int.reduceLE, Int.reduceEq, Int.reduceNe, Int.reduceBEq, Int.reduceBNe, Int.reduceToNat, Int.reduceGT, Int.reduceGE, ↓reduceIte, decide_true, decide_false, eq_self, Nat.mul_one, Nat.zero_mul, Nat.one_mul, Int.le_refl, Nat.le_refl, Int.cast_ofNat_Int, Tryd.f58]
  refine pwpC_loopU (A := { k : Nat // k ≤ st.length }) [3, 4, 5, 6, 7, 14, 15] (fun k => [(16, .t (.int .i64 k.1))]) (fun k => [(4, .mp 107 (tMap st k.1))]) (fun k => st.length - k.1) ⟨0, by omega⟩ (by decide) (fun _ => by rfl) ?_ fun Q1 hQ1 ⟨k, hk⟩ I1 hI1 => ?_
  · simp (decide := true) (maxSteps := 4000000) only [go_sem, Nat.reduceAdd, Nat.reduceSub, Nat.reduceMul, Nat.reduceDiv, Nat.reduceMod, Nat.reduceLT, Nat.reduceLeDiff, Nat.reduceEqDiff, Nat.reduceBEq, Nat.reduceBNe, Nat.reduceGT, Int.reduceAdd, Int.reduceSub, Int.reduceMul, Int.reduceNeg, Int.reduceLT, Int.reduceLE, Int.reduceEq, Int.reduceNe, Int.reduceBEq, Int.reduceBNe, Int.reduceToNat, Int.reduceGT, Int.reduceGE, ↓reduceIte, decide_true, decide_false, eq_self, Nat.mul_one, Nat.zero_mul, Nat.one_mul, Int.le_refl, Nat.le_refl, Int.cast_ofNat_Int, tMap, List.range_zero, List.foldl_nil]
  · by_cases hlt : (k : Int) < st.length
    · obtain ⟨x, hx⟩ := get_lt hlt
      have hd := ints_at hx
      rw [Nat.mul_one] at hd
      have hnx := nthI_at hx
      have hc1 : IntKind.i64.wrap (k + 1) = ((k + 1 : Nat) : Int) := by rw [wrap_in (by omega) (by omega)]; omega
      simp (decide := true) (maxSteps := 4000000) only [go_sem, Nat.reduceAdd, Nat.reduceSub, Nat.reduceMul, Nat.reduceDiv, Nat.reduceMod, Nat.reduceLT, Nat.reduceLeDiff, Nat.reduceEqDiff, Nat.reduceBEq, Nat.reduceBNe, Nat.reduceGT, Int.reduceAdd, Int.reduceSub, Int.reduceMul, Int.reduceNeg, Int.reduceLT, Int.reduceLE, Int.reduceEq, Int.reduceNe, Int.reduceBEq, Int.reduceBNe, Int.reduceToNat, Int.reduceGT, Int.reduceGE, ↓reduceIte, decide_true, decide_false, eq_self, Nat.mul_one, Nat.zero_mul, Nat.one_mul, Int.le_refl, Nat.le_refl, Int.cast_ofNat_Int, hlt, hd]
      refine hI1 _ ⟨k + 1, by omega⟩ (by simp only; omega) ?_
      simp (decide := true) (maxSteps := 4000000) only [go_sem, Nat.reduceAdd, Nat.reduceSub, Nat.reduceMul, Nat.reduceDiv, Nat.reduceMod, Nat.reduceLT, Nat.reduceLeDiff, Nat.reduceEqDiff, Nat.reduceBEq, Nat.reduceBNe, Nat.reduceGT, Int.reduceAdd, Int.reduceSub, Int.reduceMul, Int.reduceNeg, Int.reduceLT, Int.reduceLE, Int.reduceEq, Int.reduceNe, Int.reduceBEq, Int.reduceBNe, Int.reduceToNat, Int.reduceGT, Int.reduceGE, ↓reduceIte, decide_true, decide_false, eq_self, Nat.mul_one, Nat.zero_mul, Nat.one_mul, Int.le_refl, Nat.le_refl, Int.cast_ofNat_Int, hc1, tMap_succ, hnx]
    · have hke : k = st.length := by omega
      subst hke
      have hM : (∀ i : Nat, i < st.length → tMap st st.length (.int .i64 i) = some (.int .i64 (nthI st i))) = True := eq_true fun i hi => tMap_at st hi
      have e2 : Int.toNat 2 = 2 := rfl
      have e4 : Int.toNat 4 = 4 := rfl
      have htr : trainP st p q = match srch st p q 2 [] with | some l => some (tnOf l) | none => (srch st p q 4 []).map tnOf := rfl
      simp (decide := true) (maxSteps := 4000000) only [go_sem, Nat.reduceAdd, Nat.reduceSub, Nat.reduceMul, Nat.reduceDiv, Nat.reduceMod, Nat.reduceLT, Nat.reduceLeDiff, Nat.reduceEqDiff, Nat.reduceBEq, Nat.reduceBNe, Nat.reduceGT, Int.reduceAdd, Int.reduceSub, Int.reduceMul, Int.reduceNeg, Int.reduceLT, Int.reduceLE, Int.reduceEq, Int.reduceNe, Int.reduceBEq, Int.reduceBNe, Int.reduceToNat, Int.reduceGT, Int.reduceGE, ↓reduceIte, decide_true, decide_false, eq_self, Nat.mul_one, Nat.zero_mul, Nat.one_mul, Int.le_refl, Nat.le_refl, Int.cast_ofNat_Int, hlt]
      refine hQ1 _ _ ?_
      cases h2 : srch st p q 2 [] with
      | some L =>
        rw [h2] at htr
        simp (decide := true) (maxSteps := 4000000) only [go_sem, Nat.reduceAdd, Nat.reduceSub, Nat.reduceMul, Nat.reduceDiv, Nat.reduceMod, Nat.reduceLT, Nat.reduceLeDiff, Nat.reduceEqDiff, Nat.reduceBEq, Nat.reduceBNe, Nat.reduceGT, Int.reduceAdd, Int.reduceSub, Int.reduceMul, Int.reduceNeg, Int.reduceLT, Int.reduceLE, Int.reduceEq, Int.reduceNe, Int.reduceBEq, Int.reduceBNe, Int.reduceToNat, Int.reduceGT, Int.reduceGE, ↓reduceIte, decide_true, decide_false, eq_self, Nat.mul_one, Nat.zero_mul, Nat.one_mul, Int.le_refl, Nat.le_refl, Int.cast_ofNat_Int, gChoose0, hM, hp, hq, e2, h2, chH, resT, htr, Tn.tv, Tn.cs]
      | none =>
        rw [h2] at htr
        cases h4 : srch st p q 4 [] with
        | some L =>
          rw [h4] at htr
          simp (decide := true) (maxSteps := 4000000) only [go_sem, Nat.reduceAdd, Nat.reduceSub, Nat.reduceMul, Nat.reduceDiv, Nat.reduceMod, Nat.reduceLT, Nat.reduceLeDiff, Nat.reduceEqDiff, Nat.reduceBEq, Nat.reduceBNe, Nat.reduceGT, Int.reduceAdd, Int.reduceSub, Int.reduceMul, Int.reduceNeg, Int.reduceLT, Int.reduceLE, Int.reduceEq, Int.reduceNe, Int.reduceBEq, Int.reduceBNe, Int.reduceToNat, Int.reduceGT, Int.reduceGE, ↓reduceIte, decide_true, decide_false, eq_self, Nat.mul_one, Nat.zero_mul, Nat.one_mul, Int.le_refl, Nat.le_refl, Int.cast_ofNat_Int, gChoose0, hM, hp, hq, e2, e4, h2, h4, chH, resT, noTn, htr, Tn.tv, Tn.cs]
        | none =>
          rw [h4] at htr
          simp (decide := true) (maxSteps := 4000000) only [go_sem, Nat.reduceAdd, Nat.reduceSub, Nat.reduceMul, Nat.reduceDiv, Nat.reduceMod, Nat.reduceLT, Nat.reduceLeDiff, Nat.reduceEqDiff, Nat.reduceBEq, Nat.reduceBNe, Nat.reduceGT, Int.reduceAdd, Int.reduceSub, Int.reduceMul, Int.reduceNeg, Int.reduceLT, Int.reduceLE, Int.reduceEq, Int.reduceNe, Int.reduceBEq, Int.reduceBNe, Int.reduceToNat, Int.reduceGT, Int.reduceGE, ↓reduceIte, decide_true, decide_false, eq_self, Nat.mul_one, Nat.zero_mul, Nat.one_mul, Int.le_refl, Nat.le_refl, Int.cast_ofNat_Int, gChoose0, hM, hp, hq, e2, e4, h2, h4, chH, resT, noTn, htr, Tn.tv, Tn.cs]
end Go.Proofs.YtnoahnbjdapieaaDoor

/- Part Iq. -/
namespace Go.Oc
open Go Go.Pm
set_option maxRecDepth 100000
set_option linter.unusedVariables false
/-- What a train is. -/
theorem train_some {st : List Int} {p q : Int} {t : Tn} (h : trainP st p q = some t) :
    (∃ a b : Nat, a < st.length ∧ b < st.length ∧ a ≠ b ∧ nthI st a * q = nthI st b * p ∧ t = ⟨a, b, -1, -1⟩) ∨
    ((∀ a b : Nat, a < st.length → b < st.length → a ≠ b → nthI st a * q ≠ nthI st b * p) ∧ ∃ a b c d : Nat, (a < st.length ∧ b < st.length ∧ c < st.length ∧ d < st.length) ∧ (a ≠ b ∧ a ≠ c ∧ a ≠ d ∧ b ≠ c ∧ b ≠ d ∧ c ≠ d) ∧ nthI st a * nthI st c * q = nthI st b * nthI st d * p ∧ t = ⟨a, b, c, d⟩) := by
  rw [← train_ref] at h
  unfold trainR at h
  cases h2 : fsTo (fun a => fsTo (r2 st p q a) st.length) st.length with
  | some t' =>
    rw [h2] at h; cases h
    obtain ⟨a, ha, _, h2⟩ := fsTo_some h2
    obtain ⟨b, hb, _, h2⟩ := fsTo_some h2
    unfold r2 at h2
    split at h2
    · rename_i hc; cases h2; exact .inl ⟨a, b, ha, hb, hc.1, hc.2, rfl⟩
    · cases h2
  | none =>
    rw [h2] at h
    right
    constructor
    · intro a b ha hb hab he
      have := fsTo_none.1 (fsTo_none.1 h2 a ha) b hb
      unfold r2 at this
      rw [if_pos ⟨hab, he⟩] at this; cases this
    · obtain ⟨a, ha, _, h⟩ := fsTo_some h
      obtain ⟨b, hb, _, h⟩ := fsTo_some h
      obtain ⟨c, hc, _, h⟩ := fsTo_some h
      obtain ⟨d, hd, _, h⟩ := fsTo_some h
      unfold r4 at h
      split at h
      · rename_i hx; cases h; exact ⟨a, b, c, d, ⟨ha, hb, hc, hd⟩, hx.1, hx.2, rfl⟩
      · cases h
theorem train_none {st : List Int} {p q : Int} (h : trainP st p q = none) :
    (∀ a b : Nat, a < st.length → b < st.length → a ≠ b → nthI st a * q ≠ nthI st b * p) ∧ ∀ a b c d : Nat, a < st.length → b < st.length → c < st.length → d < st.length → (a ≠ b ∧ a ≠ c ∧ a ≠ d ∧ b ≠ c ∧ b ≠ d ∧ c ≠ d) → nthI st a * nthI st c * q ≠ nthI st b * nthI st d * p := by
  rw [← train_ref] at h
  unfold trainR at h
  cases h2 : fsTo (fun a => fsTo (r2 st p q a) st.length) st.length with
  | some t' => rw [h2] at h; cases h
  | none =>
    rw [h2] at h
    constructor
    · intro a b ha hb hab he
      have := fsTo_none.1 (fsTo_none.1 h2 a ha) b hb
      unfold r2 at this
      rw [if_pos ⟨hab, he⟩] at this; cases this
    · intro a b c d ha hb hc hd hx he
      have := fsTo_none.1 (fsTo_none.1 (fsTo_none.1 (fsTo_none.1 h a ha) b hb) c hc) d hd
      unfold r4 at this
      rw [if_pos ⟨hx, he⟩] at this; cases this
theorem train_times {st : List Int} {p q k : Int} (hk : 0 < k) : trainP st (p * k) (q * k) = trainP st p q := by
  rw [← train_ref, ← train_ref]
  have e : ∀ x y : Int, (x * (q * k) = y * (p * k)) ↔ (x * q = y * p) := fun x y => by
    rw [← Int.mul_assoc, ← Int.mul_assoc]
    exact ⟨fun h => Int.eq_of_mul_eq_mul_right (by omega) h, fun h => by rw [h]⟩
  have e2 : r2 st (p * k) (q * k) = r2 st p q := by
    funext a b; unfold r2; simp only [e]
  have e4 : r4 st (p * k) (q * k) = r4 st p q := by
    funext a b c d; unfold r4; simp only [e]
  unfold trainR
  rw [e2, e4]
/-- What a train multiplies and divides by; false: it is none of a stock. -/
def ratioP (st : List Int) (t : Tn) : Int × Int × Bool :=
  if (!inB t.a 0 ((st.length : Int) - 1) || !inB t.b 0 ((st.length : Int) - 1) || t.a == t.b) = true then (0, 0, false)
  else if (t.c == -1 && t.d == -1) = true then (nthI st t.a, nthI st t.b, true)
  else if (!inB t.c 0 ((st.length : Int) - 1) || !inB t.d 0 ((st.length : Int) - 1) || t.c == t.d || t.a == t.c || t.a == t.d || t.b == t.c || t.b == t.d) = true then (0, 0, false)
  else (nthI st t.a * nthI st t.c, nthI st t.b * nthI st t.d, true)
theorem inB_nat {k n : Nat} (h : k < n) : inB k 0 ((n : Int) - 1) = true := inB_iff.2 ⟨by omega, by omega⟩
theorem ratio_two {st : List Int} {a b : Nat} (ha : a < st.length) (hb : b < st.length) (hab : a ≠ b) : ratioP st ⟨a, b, -1, -1⟩ = (nthI st a, nthI st b, true) := by
  unfold ratioP
  have h : ((a : Int) == b) = false := beq_int_f (by omega)
  simp [inB_nat ha, inB_nat hb, h]
theorem ratio_four {st : List Int} {a b c d : Nat} (ha : a < st.length) (hb : b < st.length) (hc : c < st.length) (hd : d < st.length) (hx : a ≠ b ∧ a ≠ c ∧ a ≠ d ∧ b ≠ c ∧ b ≠ d ∧ c ≠ d) :
    ratioP st ⟨a, b, c, d⟩ = (nthI st a * nthI st c, nthI st b * nthI st d, true) := by
  unfold ratioP
  have h1 : ((a : Int) == b) = false := beq_int_f (by omega)
  have h2 : ((c : Int) == -1) = false := beq_int_f (by omega)
  have h3 : ((c : Int) == d) = false := beq_int_f (by omega)
  have h4 : ((a : Int) == c) = false := beq_int_f (by omega)
  have h5 : ((a : Int) == d) = false := beq_int_f (by omega)
  have h6 : ((b : Int) == c) = false := beq_int_f (by omega)
  have h7 : ((b : Int) == d) = false := beq_int_f (by omega)
  simp [inB_nat ha, inB_nat hb, inB_nat hc, inB_nat hd, h1, h2, h3, h4, h5, h6, h7]
/-- A train gives its ratio. -/
theorem train_ratio {st : List Int} {p q : Int} {t : Tn} (h : trainP st p q = some t) : ∃ P Q, ratioP st t = (P, Q, true) ∧ P * q = Q * p := by
  rcases train_some h with ⟨a, b, ha, hb, hab, he, rfl⟩ | ⟨_, a, b, c, d, ⟨ha, hb, hc, hd⟩, hx, he, rfl⟩
  · exact ⟨_, _, ratio_two ha hb hab, he⟩
  · exact ⟨_, _, ratio_four ha hb hc hd hx, he⟩
theorem train_swap {st : List Int} {p q : Int} {t : Tn} (h : trainP st p q = some t) : ∃ u, trainP st q p = some u ∧ (t.c < 0 ↔ u.c < 0) := by
  rcases train_some h with ⟨a, b, ha, hb, hab, he, rfl⟩ | ⟨hno, a, b, c, d, ⟨ha, hb, hc, hd⟩, hx, he, rfl⟩
  · cases hu : trainP st q p with
    | none => exact absurd he.symm ((train_none hu).1 b a hb ha (Ne.symm hab))
    | some u =>
      refine ⟨u, rfl, ?_⟩
      rcases train_some hu with ⟨_, _, _, _, _, _, rfl⟩ | ⟨hno, _⟩
      · simp
      · exact absurd he.symm (hno b a hb ha (Ne.symm hab))
  · cases hu : trainP st q p with
    | none => exact absurd he.symm ((train_none hu).2 b a d c hb ha hd hc ⟨by omega, by omega, by omega, by omega, by omega, by omega⟩)
    | some u =>
      refine ⟨u, rfl, ?_⟩
      rcases train_some hu with ⟨a', b', h1, h2, h3, h4, rfl⟩ | ⟨_, a', b', c', d', _, _, _, rfl⟩
      · exact absurd h4.symm (hno b' a' h2 h1 (Ne.symm h3))
      · simp only; omega
/-- If wheels have a ratio, there is a train for it. -/
theorem train_own {st : List Int} {t : Tn} {P Q : Int} (h : ratioP st t = (P, Q, true)) : ∃ v r s, trainP st P Q = some v ∧ ratioP st v = (r, s, true) ∧ r * Q = s * P ∧ (t.c = -1 → t.d = -1 → v.c < 0) := by
  have fin : ∀ v, trainP st P Q = some v → (t.c = -1 → t.d = -1 → v.c < 0) → ∃ v r s, trainP st P Q = some v ∧ ratioP st v = (r, s, true) ∧ r * Q = s * P ∧ (t.c = -1 → t.d = -1 → v.c < 0) := fun v hv hc => by
    obtain ⟨r, s, h1, h2⟩ := train_ratio hv
    exact ⟨v, r, s, hv, h1, h2, hc⟩
  have un : ∀ {x : Int}, inB x 0 ((st.length : Int) - 1) = true → ∃ k : Nat, k < st.length ∧ x = k := fun hx => by
    have := inB_iff.1 hx
    exact ⟨_, by omega, (Int.toNat_of_nonneg this.1).symm⟩
  obtain ⟨a, b, c, d⟩ := t
  unfold ratioP at h
  split at h
  · cases h
  · rename_i h1
    simp only [Bool.or_eq_true, Bool.not_eq_true', not_or, Bool.not_eq_false, beq_iff_eq] at h1
    obtain ⟨⟨ha, hb⟩, hab⟩ := h1
    obtain ⟨a, ha', rfl⟩ := un ha
    obtain ⟨b, hb', rfl⟩ := un hb
    split at h
    · simp only [Prod.mk.injEq, and_true] at h
      obtain ⟨rfl, rfl⟩ := h
      have he : nthI st a * nthI st b = nthI st b * nthI st a := Int.mul_comm ..
      cases hv : trainP st (nthI st a) (nthI st b) with
      | none => exact absurd he ((train_none hv).1 a b ha' hb' (by omega))
      | some v =>
        refine hv ▸ fin v hv fun _ _ => ?_
        rcases train_some hv with ⟨_, _, _, _, _, _, rfl⟩ | ⟨hno, _⟩
        · simp
        · exact absurd he (hno a b ha' hb' (by omega))
    · rename_i h2
      split at h
      · cases h
      · rename_i h3
        simp only [Bool.or_eq_true, Bool.not_eq_true', not_or, Bool.not_eq_false, beq_iff_eq] at h3
        obtain ⟨⟨⟨⟨⟨⟨hc, hd⟩, hcd⟩, hac⟩, had⟩, hbc⟩, hbd⟩ := h3
        obtain ⟨c, hc', rfl⟩ := un hc
        obtain ⟨d, hd', rfl⟩ := un hd
        simp only [Prod.mk.injEq, and_true] at h
        obtain ⟨rfl, rfl⟩ := h
        have he : nthI st a * nthI st c * (nthI st b * nthI st d) = nthI st b * nthI st d * (nthI st a * nthI st c) := Int.mul_comm ..
        cases hv : trainP st (nthI st a * nthI st c) (nthI st b * nthI st d) with
        | none => exact absurd he ((train_none hv).2 a b c d ha' hb' hc' hd' ⟨by omega, by omega, by omega, by omega, by omega, by omega⟩)
        | some v => exact hv ▸ fin v hv fun h _ => by simp only at h; omega
/-- No hole is nearer. -/
theorem mul_ge {a b n : Int} (h : a ≤ b) (hn : 0 < n) : a * n ≤ b * n := Int.mul_le_mul_of_nonneg_right h (by omega)
theorem near {all n k : Int} (hn : 0 < n) (o : Int) : absI (wrongP all n k) < absI (o * n - k * all) ∨ absI (wrongP all n k) = absI (o * n - k * all) ∧ placeP all n k ≤ o := by
  have h1 := Int.mul_ediv_add_emod (k * all) n
  have h2 := Int.emod_nonneg (k * all) (show n ≠ 0 by omega)
  have h3 := Int.emod_lt_of_pos (k * all) hn
  have hp := place_spec (all := all) (k := k) hn
  generalize wrongP all n k = w at *
  generalize placeP all n k = p at *
  generalize k * all / n = q at *
  generalize k * all % n = r at *
  generalize k * all = a at *
  have e : o * n - a = (o - q) * n - r := by rw [Int.sub_mul, Int.mul_comm q n]; omega
  rw [e]
  generalize hd : o - q = d
  have m1 : d ≤ -1 → d * n ≤ -1 * n := fun h => mul_ge h hn
  have m2 : 1 ≤ d → 1 * n ≤ d * n := fun h => mul_ge h hn
  have m3 : 2 ≤ d → 2 * n ≤ d * n := fun h => mul_ge h hn
  have m0 : d = 0 → d * n = 0 := fun h => by rw [h, Int.zero_mul]
  have m4 : d = 1 → d * n = n := fun h => by rw [h, Int.one_mul]
  unfold absI
  generalize d * n = dn at *
  omega
theorem place_range {all n k : Int} (hn : 0 < n) (ha : 0 < all) (hk : 0 ≤ k) (hkn : k < n) : 0 ≤ placeP all n k ∧ placeP all n k ≤ all := by
  have h1 := Int.mul_ediv_add_emod (k * all) n
  have h2 := Int.emod_nonneg (k * all) (show n ≠ 0 by omega)
  have h4 : 0 ≤ k * all / n := Int.ediv_nonneg (Int.mul_nonneg hk (by omega)) (by omega)
  have h5 : k * all / n < all := by
    rw [Int.ediv_lt_iff_lt_mul hn, Int.mul_comm all n]
    exact Int.mul_lt_mul_of_pos_right hkn ha
  unfold placeP
  split <;> omega
theorem place_mono {all n k : Int} (hn : 0 < n) (ha : 0 < all) : placeP all n k ≤ placeP all n (k + 1) := by
  have h1 := Int.mul_ediv_add_emod (k * all) n
  have h2 := Int.emod_nonneg (k * all) (show n ≠ 0 by omega)
  have h3 := Int.emod_lt_of_pos (k * all) hn
  have g1 := Int.mul_ediv_add_emod ((k + 1) * all) n
  have g2 := Int.emod_nonneg ((k + 1) * all) (show n ≠ 0 by omega)
  have g3 := Int.emod_lt_of_pos ((k + 1) * all) hn
  have e : (k + 1) * all = k * all + all := by rw [Int.add_mul, Int.one_mul]
  unfold placeP
  generalize (k + 1) * all = b at *
  generalize k * all = a at *
  generalize a / n = q at *
  generalize b / n = q' at *
  generalize a % n = r at *
  generalize b % n = r' at *
  have hq : n * (q' - q) = all + r - r' := by rw [Int.mul_sub]; omega
  have m1 : q' - q ≤ -1 → (q' - q) * n ≤ -1 * n := fun h => mul_ge h hn
  rw [Int.mul_comm] at hq
  have m0 : q' - q = 0 → (q' - q) * n = 0 := fun h => by rw [h, Int.zero_mul]
  generalize (q' - q) * n = z at *
  split <;> split <;> omega
/-- What is engraved, and the fault. -/
theorem engr_spec {f A : Int} (hA : 0 < A) : f * 129600000 ≤ engrP f A * A ∧ (engrP f A - 1) * A < f * 129600000 := by
  unfold engrP
  generalize f * 129600000 = a
  have h1 := Int.mul_ediv_add_emod (a + A - 1) A
  have h2 := Int.emod_nonneg (a + A - 1) (show A ≠ 0 by omega)
  have h3 := Int.emod_lt_of_pos (a + A - 1) hA
  rw [Int.sub_mul, Int.mul_comm _ A]
  omega
theorem engr_le {f A B : Int} (hA : 0 < A) (h : f * 129600000 ≤ B * A) : engrP f A ≤ B := by
  have h1 := (engr_spec (f := f) hA).2
  have h2 : (engrP f A - 1) * A < B * A := by omega
  have := Int.lt_of_mul_lt_mul_right h2 (by omega)
  omega
theorem engr_nonneg {f A : Int} (hA : 0 < A) (hf : 0 ≤ f) : 0 ≤ engrP f A := by
  unfold engrP
  exact Int.ediv_nonneg (by omega) (by omega)
theorem engr_most {f n all : Int} (hn : 0 < n) (ha : 0 < all) (hf : f ≤ n) : engrP f (n * all) ≤ 129600000 := by
  refine engr_le (Int.mul_pos hn ha) ?_
  have h1 : n * 1 ≤ n * all := Int.mul_le_mul_of_nonneg_left (by omega) (by omega)
  have h2 : f ≤ n * all := by omega
  rw [Int.mul_comm]
  exact Int.mul_le_mul_of_nonneg_left h2 (by omega)
theorem fault_zero {all n : Int} (hn : 0 < n) : faultP all n = 0 ↔ all % n = 0 := by
  unfold faultP
  constructor
  · intro h
    by_cases h1 : n = 1
    · subst h1; omega
    · have h2 := faultTo_le (all := all) (n := n) (show 1 < n.toNat by omega)
      have hw : wrongP all n ((1 : Nat) : Int) = 0 := by unfold absI at h2; omega
      have h3 := place_spec (all := all) (k := ((1 : Nat) : Int)) hn
      have h4 := Int.emod_lt_of_pos (((1 : Nat) : Int) * all) hn
      have e : ((1 : Nat) : Int) * all = all := by simp
      rw [e] at h3 h4
      omega
  · intro h
    have hz : ∀ k : Nat, wrongP all n k = 0 := fun k => by
      have h3 := place_spec (all := all) (k := (k : Int)) hn
      have : (k : Int) * all % n = 0 := by
        rw [Int.mul_emod, h, Int.mul_zero, Int.zero_emod]
      rw [this] at h3
      omega
    have : ∀ m : Nat, faultTo all n m = 0 := fun m => by
      induction m with
      | zero => rfl
      | succ m ih => rw [faultTo_succ, ih, hz]; rfl
    exact this _
theorem engr_zero {all n : Int} (hn : 0 < n) (ha : 0 < all) : engrP (faultP all n) (n * all) = 0 ↔ all % n = 0 := by
  rw [← fault_zero hn]
  have hA : 0 < n * all := Int.mul_pos hn ha
  have hb : 0 ≤ faultP all n := (faultTo_bound hn _).1
  constructor
  · intro h
    have := (engr_spec (f := faultP all n) hA).1
    rw [h, Int.zero_mul] at this
    omega
  · intro h
    have := (engr_spec (f := faultP all n) hA).2
    have h2 := engr_nonneg (f := faultP all n) hA hb
    rw [h] at this h2 ⊢
    have h3 : (engrP 0 (n * all) - 1) * (n * all) < 0 * (n * all) := by rw [Int.zero_mul]; omega
    have := Int.lt_of_mul_lt_mul_right h3 (by omega)
    omega
/-- Fractions. -/
theorem frac_trans {a b c d e f : Int} (hb : 0 < b) (hd : 0 < d) (hf : 0 < f) (h1 : a * d ≤ c * b) (h2 : c * f ≤ e * d) : a * f ≤ e * b := by
  have g1 : a * d * f ≤ c * b * f := Int.mul_le_mul_of_nonneg_right h1 (by omega)
  have g2 : c * f * b ≤ e * d * b := Int.mul_le_mul_of_nonneg_right h2 (by omega)
  have e1 : c * b * f = c * f * b := by rw [Int.mul_assoc, Int.mul_comm b f, ← Int.mul_assoc]
  have e2 : a * d * f = (a * f) * d := by rw [Int.mul_assoc, Int.mul_comm d f, ← Int.mul_assoc]
  have e3 : e * d * b = (e * b) * d := by rw [Int.mul_assoc, Int.mul_comm d b, ← Int.mul_assoc]
  have g3 : (a * f) * d ≤ (e * b) * d := by omega
  exact Int.le_of_mul_le_mul_right g3 hd
theorem bestK_least {t : Int} {l : List Int} {n : Int} (hp : ∀ i : Nat, i < l.length → 0 < nthI l i) : ∀ {k : Nat}, k < l.length → ∀ {i : Nat}, i ≤ k → (bestK t l n k).2 * nthI l i ≤ faultP (t * nthI l i) n * nthI l (bestK t l n k).1
  | 0, _, i, hi => by
    have : i = 0 := by omega
    subst this
    exact Int.le_refl _
  | k + 1, hk, i, hi => by
    have ih := fun i (hi : i ≤ k) => bestK_least (t := t) (n := n) hp (show k < l.length by omega) hi
    obtain ⟨b1, b2, b3⟩ := bestK_spec t l n k
    obtain ⟨j, hj⟩ := Int.eq_ofNat_of_zero_le b1
    rw [bestK]
    split
    · rename_i hlt
      simp only
      by_cases hik : i = k + 1
      · subst hik; exact Int.le_refl _
      · have h1 := ih i (by omega)
        rw [hj] at hlt h1
        exact frac_trans (hp (k + 1) hk) (hp j (by omega)) (hp i (by omega)) (Int.le_of_lt hlt) h1
    · rename_i hlt
      by_cases hik : i = k + 1
      · subst hik; omega
      · exact ih i (by omega)
theorem engr_mono {f1 f2 h1 h2 N : Int} (hN : 0 < N) (p1 : 0 < h1) (p2 : 0 < h2) (h : f1 * h2 ≤ f2 * h1) : engrP f1 (N * h1) ≤ engrP f2 (N * h2) := by
  have a1 : 0 < N * h1 := Int.mul_pos hN p1
  have a2 : 0 < N * h2 := Int.mul_pos hN p2
  refine engr_le a1 ?_
  have s := (engr_spec (f := f2) a2).1
  generalize engrP f2 (N * h2) = E at *
  have g1 : f1 * h2 * 129600000 ≤ f2 * h1 * 129600000 := Int.mul_le_mul_of_nonneg_right h (by omega)
  have g2 : f2 * 129600000 * h1 ≤ E * (N * h2) * h1 := Int.mul_le_mul_of_nonneg_right s (by omega)
  have e1 : f1 * h2 * 129600000 = (f1 * 129600000) * h2 := by rw [Int.mul_assoc, Int.mul_comm h2, ← Int.mul_assoc]
  have e2 : f2 * h1 * 129600000 = (f2 * 129600000) * h1 := by rw [Int.mul_assoc, Int.mul_comm h1, ← Int.mul_assoc]
  have e3 : E * (N * h2) * h1 = (E * (N * h1)) * h2 := by
    rw [← Int.mul_assoc, ← Int.mul_assoc, Int.mul_assoc (E * N), Int.mul_comm h2 h1, ← Int.mul_assoc]
  have g3 : (f1 * 129600000) * h2 ≤ (E * (N * h1)) * h2 := by omega
  exact Int.le_of_mul_le_mul_right g3 p2
/-- A circle more. -/
def insC (more : Int) : Int → List Int → List Int
  | a, [] => if a < more then [more] else []
  | a, x :: l => (if x > more ∧ a < more then [more] else []) ++ x :: insC more x l
theorem insC_ok {more : Int} (hm : more ≤ 200) : ∀ {a : Int} {l : List Int}, circOk a l = true → circOk a (insC more a l) = true
  | a, [], _ => by
    unfold insC
    split
    · simp only [circOk, Bool.and_true, inB_iff]; omega
    · rfl
  | a, x :: l, h => by
    simp only [circOk, Bool.and_eq_true, inB_iff] at h
    have ih := insC_ok hm h.2
    unfold insC
    split
    · simp only [List.cons_append, List.nil_append, circOk, Bool.and_eq_true, inB_iff]
      exact ⟨by omega, by omega, ih⟩
    · simp only [List.nil_append, circOk, Bool.and_eq_true, inB_iff]
      exact ⟨h.1, ih⟩
theorem insC_same {more : Int} : ∀ {a : Int} {l : List Int}, more ≤ a → circOk a l = true → insC more a l = l
  | a, [], h, _ => by unfold insC; rw [if_neg (by omega)]
  | a, x :: l, h, hc => by
    simp only [circOk, Bool.and_eq_true, inB_iff] at hc
    unfold insC
    rw [if_neg (by omega), List.nil_append, insC_same (by omega) hc.2]
theorem insC_len {more : Int} : ∀ {a : Int} {l : List Int}, circOk a l = true → (insC more a l).length ≤ l.length + 1
  | a, [], _ => by unfold insC; split <;> simp
  | a, x :: l, h => by
    simp only [circOk, Bool.and_eq_true, inB_iff] at h
    unfold insC
    split
    · rename_i hx
      rw [insC_same (by omega) h.2]; simp
    · have := insC_len (more := more) h.2
      simp; omega
theorem insC_sub {more : Int} : ∀ {a : Int} {l : List Int}, l.Sublist (insC more a l)
  | a, [] => List.nil_sublist _
  | a, x :: l => by
    unfold insC
    exact List.Sublist.trans (List.Sublist.cons_cons x insC_sub) (List.sublist_append_right _ _)
theorem plans_count (t : Int) (l : List Int) (n : Int) (k : Nat) (hk : k ≤ l.length) : (plansTo t l n k).length = (l.take k).countP fun h => decide (t * h % n = 0) := by
  induction k with
  | zero => rfl
  | succ k ih =>
    have hx : l[k]? = some l[k] := List.getElem?_eq_getElem (by omega)
    rw [plansTo_succ, take_snoc hx, List.length_append, List.countP_append, ih (by omega), nthI_at hx]
    unfold planAt
    by_cases h : t * l[k] % n = 0 <;> simp [h]
theorem more_plans {t n : Int} {l x : List Int} (h : l.Sublist x) : (plansP t l n).length ≤ (plansP t x n).length := by
  unfold plansP
  rw [plans_count _ _ _ _ (Nat.le_refl _), plans_count _ _ _ _ (Nat.le_refl _), List.take_length, List.take_length]
  exact h.countP_le
theorem more_comp {t n : Int} {l x : List Int} (h : l.Sublist x) (hl : circOk 1 l = true) (hx : circOk 1 x = true) {c : Pr} (hc : compP t l n = some c) : ∃ d, compP t x n = some d ∧ holP d ≤ holP c := by
  obtain ⟨h1, _⟩ := compP_some hc
  obtain ⟨i, k, j, g1, g2, g3, g4⟩ := cands_mem.1 h1
  have e1 : l[i]? = some l[i] := List.getElem?_eq_getElem (by omega)
  have e2 : l[k]? = some l[k] := List.getElem?_eq_getElem g2
  have hlt := circ_lt hl g1 e1 e2
  obtain ⟨i', hi'⟩ := List.mem_iff_getElem?.1 (h.mem (List.mem_of_getElem? e1))
  obtain ⟨k', hk'⟩ := List.mem_iff_getElem?.1 (h.mem (List.mem_of_getElem? e2))
  have hik : i' < k' := by
    rcases Nat.lt_trichotomy i' k' with h' | h' | h'
    · exact h'
    · subst h'; rw [hi'] at hk'; have := Option.some.inj hk'; omega
    · have := circ_lt hx h' hk' hi'; omega
  rw [nthI_at e1, nthI_at e2] at g4
  have g5 : prAt t (nthI x i') (nthI x k') n i' k' ((j : Int) - 2000) = some ⟨i', k', c.x, c.y⟩ := by
    rw [nthI_at hi', nthI_at hk']
    unfold prAt at g4 ⊢
    split at g4
    · rename_i hh; rw [if_pos hh]; cases g4; rfl
    · cases g4
  have hmem : (⟨i', k', c.x, c.y⟩ : Pr) ∈ cands t x n x.length := cands_mem.2 ⟨i', k', j, hik, (List.getElem?_eq_some_iff.1 hk').1, g3, g5⟩
  cases hd : compP t x n with
  | none => rw [compP_none] at hd; rw [hd] at hmem; cases hmem
  | some d =>
    refine ⟨d, rfl, ?_⟩
    have := (compP_some hd).2 _ hmem
    have e : holP (⟨i', k', c.x, c.y⟩ : Pr) = holP c := rfl
    omega
theorem more_best {t n : Int} {l x : List Int} (h : l.Sublist x) (hl : headOk t l = true) (hx : headOk t x = true) (hn : 0 < n) :
    engrP (bestK t x n (x.length - 1)).2 (n * (t * nthI x (bestK t x n (x.length - 1)).1)) ≤ engrP (bestK t l n (l.length - 1)).2 (n * (t * nthI l (bestK t l n (l.length - 1)).1)) := by
  have hl' := headOk_iff.1 hl
  have hx' := headOk_iff.1 hx
  have pl : ∀ i : Nat, i < l.length → 0 < nthI l i := fun i hi => by
    have e : l[i]? = some l[i] := List.getElem?_eq_getElem hi
    rw [nthI_at e]; have := head_at hl e; omega
  have px : ∀ i : Nat, i < x.length → 0 < nthI x i := fun i hi => by
    have e : x[i]? = some x[i] := List.getElem?_eq_getElem hi
    rw [nthI_at e]; have := head_at hx e; omega
  obtain ⟨b1, b2, b3⟩ := bestK_spec t l n (l.length - 1)
  obtain ⟨c1, c2, c3⟩ := bestK_spec t x n (x.length - 1)
  obtain ⟨i, hi⟩ := Int.eq_ofNat_of_zero_le b1
  obtain ⟨k, hk⟩ := Int.eq_ofNat_of_zero_le c1
  have e1 : l[i]? = some l[i] := List.getElem?_eq_getElem (by omega)
  obtain ⟨j, hj⟩ := List.mem_iff_getElem?.1 (h.mem (List.mem_of_getElem? e1))
  have hjl := (List.getElem?_eq_some_iff.1 hj).1
  have hb := bestK_least (t := t) (n := n) px (show x.length - 1 < x.length by omega) (show j ≤ x.length - 1 by omega)
  have e3 : nthI x j = nthI l i := by rw [nthI_at hj, nthI_at e1]
  rw [e3] at hb
  rw [hi] at b3 ⊢
  rw [hk] at hb ⊢
  rw [← b3] at hb
  rw [← Int.mul_assoc, ← Int.mul_assoc]
  exact engr_mono (Int.mul_pos hn (by omega)) (px k (by omega)) (pl i (by omega)) hb
/-- A pair that is one is among the candidates, and no better than the best. -/
theorem comp_fewest {t n : Int} {l : List Int} {i k : Nat} {x y : Int} (hn : 0 < n) (hik : i < k) (hk : k < l.length) (ha : 0 < nthI l i) (hx1 : -2000 ≤ x) (hx2 : x ≤ 2000)
    (h : (t * nthI l i * nthI l k - n * x * nthI l k) % (n * nthI l i) = 0) (hy : (t * nthI l i * nthI l k - n * x * nthI l k) / (n * nthI l i) = y) (hy1 : -2000 ≤ y) (hy2 : y ≤ 2000) :
    ∃ r, compP t l n = some r ∧ (holP r < absI x + absI y ∨ holP r = absI x + absI y ∧ ((r.a = i ∧ r.b = k ∧ r.x = x) ∨ befP r ⟨i, k, x, y⟩)) := by
  have hall := Int.mul_ediv_add_emod (t * nthI l i * nthI l k - n * x * nthI l k) (n * nthI l i)
  rw [h, hy] at hall
  generalize he : nthI l i = a at *
  generalize hf : nthI l k = b at *
  have e1 : t * a * b = n * (a * y + x * b) := by
    have : n * a * y + n * x * b = n * (a * y + x * b) := by rw [Int.mul_add, Int.mul_assoc, Int.mul_assoc]
    omega
  have q1 : t * a * b % n = 0 := by rw [e1, Int.mul_emod_right]
  have q2 : t * a * b / n = a * y + x * b := by rw [e1, Int.mul_ediv_cancel_left _ (by omega)]
  have q3 : (a * y + x * b - x * b) = a * y := by omega
  have hp : prAt t (nthI l i) (nthI l k) n i k (((x + 2000).toNat : Nat) - 2000 : Int) = some ⟨i, k, x, y⟩ := by
    have ex : (((x + 2000).toNat : Nat) - 2000 : Int) = x := by omega
    rw [ex, he, hf]
    unfold prAt
    rw [q2, q3, Int.mul_emod_right, Int.mul_ediv_cancel_left _ (by omega), if_pos ⟨q1, rfl, inB_iff.2 ⟨hy1, hy2⟩⟩]
  have hm : (⟨i, k, x, y⟩ : Pr) ∈ cands t l n l.length := cands_mem.2 ⟨i, k, (x + 2000).toNat, hik, hk, by omega, hp⟩
  cases hr : compP t l n with
  | none => rw [compP_none] at hr; rw [hr] at hm; cases hm
  | some r =>
    refine ⟨r, rfl, ?_⟩
    rcases (compP_some hr).2 _ hm with h1 | ⟨h1, h2 | h2⟩
    · exact .inl h1
    · exact .inr ⟨h1, .inl (by rw [h2]; exact ⟨rfl, rfl, rfl⟩)⟩
    · exact .inr ⟨h1, .inr h2⟩
/-- What a compound plan does. -/
theorem comp_closes {t n : Int} {l : List Int} {r : Pr} (hn : 0 < n) (hl : headOk t l = true) (h : compP t l n = some r) :
    (0 ≤ r.a ∧ r.a < r.b ∧ r.b < l.length) ∧ (-2000 ≤ r.x ∧ r.x ≤ 2000) ∧ (-2000 ≤ r.y ∧ r.y ≤ 2000) ∧ n * (r.x * nthI l r.b + r.y * nthI l r.a) = t * nthI l r.a * nthI l r.b := by
  obtain ⟨i, k, j, h1, h2, h3, h4⟩ := cands_mem.1 (compP_some h).1
  obtain ⟨e1, e2, e3, e4, e5, e6, e7, e8⟩ := prAt_eq h4
  have hi : l[i]? = some l[i] := List.getElem?_eq_getElem (by omega)
  have ha := head_at hl hi
  rw [← nthI_at hi] at ha
  refine ⟨by omega, by omega, by omega, ?_⟩
  rw [e1, e2]
  generalize nthI l i = a at *
  generalize nthI l k = b at *
  have g1 := Int.mul_ediv_add_emod (t * a * b) n
  have g2 := Int.mul_ediv_add_emod (t * a * b / n - j * b) a
  rw [e3, e6]
  have g3 := Int.mul_ediv_add_emod (t * a * b / n - ((j : Int) - 2000) * b) a
  rw [e5, Int.mul_comm a] at g3
  have g4 : ((j : Int) - 2000) * b + (t * a * b / n - ((j : Int) - 2000) * b) / a * a = t * a * b / n := by omega
  rw [g4]; omega
/-- Plans, one after the other. -/
theorem plansTo_mem {t n : Int} {l : List Int} {k : Nat} {p : Pl} : p ∈ plansTo t l n k ↔ ∃ i : Nat, i < k ∧ planAt t (nthI l i) n i = some p := by
  unfold plansTo
  rw [List.mem_filterMap]
  simp only [List.mem_range]
theorem plansTo_pw (t : Int) (l : List Int) (n : Int) (k : Nat) : (plansTo t l n k).Pairwise fun p q => p.c < q.c := by
  unfold plansTo
  rw [List.pairwise_filterMap]
  refine List.Pairwise.imp ?_ List.pairwise_lt_range
  intro c d hcd p hp q hq
  unfold planAt at hp hq
  split at hp
  · split at hq
    · cases hp; cases hq; simp only; omega
    · cases hq
  · cases hp
/-- What a plan does: how many holes it moves. -/
theorem plan_moves {t n : Int} {l : List Int} {p : Pl} (hn : 0 < n) (hl : headOk t l = true) (h : p ∈ plansP t l n) :
    (0 ≤ p.c ∧ p.c < l.length) ∧ (0 ≤ p.t ∧ p.t ≤ 400) ∧ (0 ≤ p.h ∧ p.h ≤ nthI l p.c - 1) ∧ n * (p.t * nthI l p.c + p.h) = t * nthI l p.c := by
  obtain ⟨i, hi, hp⟩ := plansTo_mem.1 h
  have e : l[i]? = some l[i] := List.getElem?_eq_getElem hi
  have ha := head_at hl e
  have hl' := headOk_iff.1 hl
  rw [← nthI_at e] at ha
  obtain ⟨e1, e2, e3, e4⟩ := plan_spec hn (by omega) hp
  have et : p.t = t * nthI l i / n / nthI l i := by
    unfold planAt at hp; split at hp
    · cases hp; rfl
    · cases hp
  have t0 : 0 ≤ t * nthI l i := Int.mul_nonneg (by omega) (by omega)
  have t1 : 0 ≤ t * nthI l i / n := Int.ediv_nonneg t0 (by omega)
  have t2 : 0 ≤ p.t := by rw [et]; exact Int.ediv_nonneg t1 (by omega)
  have t3 : p.t ≤ t := by
    rw [et]
    have h1 : t * nthI l i / n ≤ t * nthI l i := Int.ediv_le_self _ t0
    have h2 : t * nthI l i / n / nthI l i ≤ t * nthI l i / nthI l i := Int.ediv_le_ediv (by omega) h1
    rw [Int.mul_ediv_cancel _ (by omega)] at h2
    exact h2
  rw [e1]
  exact ⟨by omega, by omega, by omega, e4⟩
theorem fewer_not {n m a less : Int} (hn : 0 < n) (ha : 0 < a) (h : n * m = a) : less % n * m ≠ a := by
  have h2 := Int.emod_lt_of_pos less hn
  have hm : 0 < m := by
    rcases Int.lt_or_le 0 m with h' | h'
    · exact h'
    · have : n * m ≤ 0 := Int.mul_nonpos_of_nonneg_of_nonpos (by omega) h'
      omega
  have := Int.mul_lt_mul_of_pos_right h2 hm
  omega
/-- Differentials. -/
theorem diff1_some {t : Int} {l st : List Int} {n aside m : Int} {x : Df} (h : diff1 t l st n aside m = some x) : inB m 1 20000 = true ∧ x.m = m ∧ x.p ∈ plansP t l m ∧ trainP st (t * aside) m = some x.t ∧ x.on = decide (m > n) := by
  unfold diff1 at h
  split at h
  · cases h
  · rename_i h1
    split at h
    · cases h
    · rename_i p ps hp
      split at h
      · cases h
      · rename_i tr htr
        cases h
        exact ⟨by simpa using h1, rfl, by rw [hp]; simp, htr, rfl⟩
theorem diff_some {t : Int} {l st : List Int} {n : Int} {x : Df} (h : diffP t l st n = some x) : ∃ aside : Int, 1 ≤ aside ∧ aside ≤ 20 ∧ (x.m = n - aside ∨ x.m = n + aside) ∧ inB x.m 1 20000 = true ∧ x.p ∈ plansP t l x.m ∧ trainP st (t * aside) x.m = some x.t ∧ x.on = decide (x.m > n) := by
  change fsTo (fun i : Nat => diff2 t l st n ((i : Int) + 1)) 20 = some x at h
  obtain ⟨i, hi, _, h⟩ := fsTo_some h
  refine ⟨(i : Int) + 1, by omega, by omega, ?_⟩
  unfold diff2 at h
  split at h
  · rename_i y hy
    cases h
    obtain ⟨a, b, c, d, e⟩ := diff1_some hy
    rw [b]; exact ⟨.inl rfl, a, c, d, by rw [e]⟩
  · obtain ⟨a, b, c, d, e⟩ := diff1_some h
    rw [b]; exact ⟨.inr rfl, a, c, d, by rw [e]⟩
theorem together {n m t h q p L aside : Int} (hL : 0 < L) (h1 : L * m = t * h) (h2 : p * L = q * (t * aside)) : (L = n + aside → n * m * q + p * h = t * h * q) ∧ (L = n - aside → n * m * q + -(p * h) = t * h * q) := by
  have key : p * h = aside * m * q := by
    have : (p * h) * L = (aside * m * q) * L := by
      have a1 : (p * h) * L = p * L * h := by rw [Int.mul_assoc, Int.mul_comm h L, ← Int.mul_assoc]
      have a2 : q * (t * aside) * h = aside * q * (t * h) := by grind
      rw [a1, h2, a2, ← h1]; grind
    exact Int.eq_of_mul_eq_mul_right (by omega) this
  rw [key, ← h1]
  constructor
  · intro e; subst e; grind
  · intro e; subst e; grind
end Go.Oc

/- Part If. -/
namespace Go.Pm
open Go Go.RowKit
variable {P : Program}
/-- A range over a function that is left in its first round. -/
theorem pwpC_range1 {sp : Spec} {X : PX} {n : Nat} {g : Operand} {ps : Array Tmp} {assign body : Code} {Q : Exit → CS → Prop} {s : CS} (hX : X.inr = false) (f : FuncId) (pre caps : List TV) (x : List TV) (xs : List (List TV)) (e : Exit) (he : isJump e = true) (T : List (Nat × PV)) (S0 S1 : List PO) (k : Nat)
    (h0 : weakW X.k s ⟨T, S0⟩) (hT : keysOk n T = true) (hps : ps.toList.all (· < n) = true) (hg : (⟨T, S0⟩ : CS).eval g = .t (.fn f pre caps)) (hI : Iter P f pre caps (x :: xs)) (hlen : ∀ y ∈ x :: xs, y.length = ps.size) (hk0 : S0.length ≤ k) (hk1 : S1.length ≤ k) (hc : cntL S1 = cntL S0)
    (round : pwpC P sp ⟨noY, k, true⟩ n assign (seqC (pwpC P sp ⟨noY, k, true⟩ n body fun e' s' => e' = e ∧ weakW k ⟨[], s'.heap⟩ ⟨[], S1⟩) fun _ _ => False) ⟨setEnv T ps.toList x, S0⟩)
    (hQ : Q e ⟨T, S1⟩) : pwpC P sp X n (.rangeFunc g ps assign body) Q s :=
  ⟨hX, f, pre, caps, x :: xs, T, fun i => if i = 0 then S0 else S1, k, 1, true, e, h0, hT, hps, hg, hI, hlen, by simp, fun h => (by cases h), fun _ => ⟨by omega, he⟩,
    fun i => (by
      show (if i = 0 then S0 else S1).length ≤ k
      split
      · exact hk0
      · exact hk1), fun i => (by
      show cntOf (getL (if i = 0 then S0 else S1)) = cntOf (getL S0)
      split
      · rfl
      · rw [cntL_eq, cntL_eq]; exact hc),
    fun i y hi hy => by
      have hi0 : i = 0 := by omega
      subst hi0
      simp at hy; subst hy
      simpa using round, hQ⟩
end Go.Pm
namespace Go.Proofs.YtnoahnbjdapieaaDoor
open Go.RowKit Go.Pm Go.Oc
set_option maxRecDepth 100000
set_option linter.unusedVariables false
set_option maxHeartbeats 8000000

noncomputable def ixTrain : List TV → Option TV
  | [.sl cs n full, .int .i64 p, .int .i64 q] => match unI cs with
    | some st => if n = st.length ∧ stockOk1 st = true ∧ (0 ≤ p ∧ p ≤ 100000) ∧ 0 ≤ q ∧ q ≤ 100000 then some ((trainP st p q).getD noTn).tv else none
    | none => none
  | _ => none
theorem ixTrain_ok : ∀ xs r, ixTrain xs = some r → PCalls Tryd.prog 58 xs r := by
  intro xs r h
  unfold ixTrain at h
  split at h
  · rename_i cs n full p q
    split at h
    · rename_i st hl
      split at h
      · rename_i hc; cases h
        obtain ⟨rfl, h0, h1, h2⟩ := hc
        have e := unI_some hl
        rw [ic_ints] at e
        subst e
        exact iTrain_c full h0 h1 h2
      · cases h
    · cases h
  · cases h
attribute [go_sem] ixTrain
noncomputable def spF1 : Pm.Spec := (spV3.one 57 ixIsStock).one 58 ixTrain
@[go_sem] theorem spF1_p (f : FuncId) (xs : List TV) : spF1.p f xs = Pm.Spec.p ((spV3.one 57 ixIsStock).one 58 ixTrain) f xs := rfl
@[go_sem] theorem spF1_h (f : FuncId) (ps : List PV) (hl : List PO) : spF1.h f ps hl = Pm.Spec.h ((spV3.one 57 ixIsStock).one 58 ixTrain) f ps hl := rfl
@[go_sem] theorem spF1_fz (f : FuncId) : spF1.fz f = Pm.Spec.fz ((spV3.one 57 ixIsStock).one 58 ixTrain) f := rfl
@[go_sem] theorem spF1_fr (f : FuncId) : spF1.fr f = Pm.Spec.fr ((spV3.one 57 ixIsStock).one 58 ixTrain) f := rfl
@[go_sem] theorem spF1_mu (t : TypeId) : spF1.mu t = Pm.Spec.mu ((spV3.one 57 ixIsStock).one 58 ixTrain) t := rfl
theorem spF1_ok : SpecOk Tryd.prog spF1 := Spec.one_ok ixTrain_ok (Spec.one_ok ixIsStock_ok spV3_ok)
theorem tr_not {st : List Int} {p q : Int} {tr : Tn} (h : trainP st p q = some tr) : (tr.a == -1) = false :=
  beq_int_f (by rcases train_some h with ⟨_, _, _, _, _, _, e⟩ | ⟨_, _, _, _, _, _, _, _, e⟩ <;> rw [e] <;> simp only <;> omega)
theorem iTrainE_c {st : List Int} {s : TV} (hs : IsRow ic s st) (hsl : st.length ≤ 17592186044415) (p q : Int) : PCalls Tryd.prog 27 [s, .int .i64 p, .int .i64 q] (.tup [(trainE st p q).1.tv, .int .i64 (trainE st p q).2]) := by
  have rI := rowI_is hs
  unfold rowL at rI
  unfold trainE
  refine pcalls_by Tryd.mixes spF1_ok (fn := Tryd.f27) Tryd.func27 rfl (by kernel_rfl) (by show 3 ≤ _; decide) ?_
  cases h1 : stockOk1 st with
  | false => cases h2 : inB p 1 100000 <;> cases h3 : inB q 1 100000 <;> simp (decide := true) (maxSteps := 4000000) only [go_sem, Nat.reduceAdd, Nat.reduceSub, Nat.reduceMul, Nat.reduceDiv, Nat.reduceMod, Nat.reduceLT, Nat.reduceLeDiff, Nat.reduceEqDiff, Nat.reduceBEq, Nat.reduceBNe, Nat.reduceGT, Int.reduceAdd, Int.reduceSub, Int.reduceMul, Int.reduceNeg, Int.reduceLT, Int.reduceLE, Int.reduceEq, Int.reduceNe, Int.reduceBEq, Int.reduceBNe, Int.reduceToNat, Int.reduceGT, Int.reduceGE, ↓reduceIte, decide_true, decide_false, eq_self, Nat.mul_one, Nat.zero_mul, Nat.one_mul, Int.le_refl, Nat.le_refl, Int.cast_ofNat_Int, Tryd.f27, rI, hsl, h1, h2, h3, Tn.tv, Tn.cs]
  | true =>
    have h1' := stockOk1_iff.1 h1
    cases h2 : inB p 1 100000 with
    | false => cases h3 : inB q 1 100000 <;> simp (decide := true) (maxSteps := 4000000) only [go_sem, Nat.reduceAdd, Nat.reduceSub, Nat.reduceMul, Nat.reduceDiv, Nat.reduceMod, Nat.reduceLT, Nat.reduceLeDiff, Nat.reduceEqDiff, Nat.reduceBEq, Nat.reduceBNe, Nat.reduceGT, Int.reduceAdd, Int.reduceSub, Int.reduceMul, Int.reduceNeg, Int.reduceLT, Int.reduceLE, Int.reduceEq, Int.reduceNe, Int.reduceBEq, Int.reduceBNe, Int.reduceToNat, Int.reduceGT, Int.reduceGE, ↓reduceIte, decide_true, decide_false, eq_self, Nat.mul_one, Nat.zero_mul, Nat.one_mul, Int.le_refl, Nat.le_refl, Int.cast_ofNat_Int, Tryd.f27, rI, hsl, h1, h2, h3, Tn.tv, Tn.cs]
    | true =>
      cases h3 : inB q 1 100000 with
      | false => simp (decide := true) (maxSteps := 4000000) only [go_sem, Nat.reduceAdd, Nat.reduceSub, Nat.reduceMul, Nat.reduceDiv, Nat.reduceMod, Nat.reduceLT, Nat.reduceLeDiff, Nat.reduceEqDiff, Nat.reduceBEq, Nat.reduceBNe, Nat.reduceGT, Int.reduceAdd, Int.reduceSub, Int.reduceMul, Int.reduceNeg, Int.reduceLT, Int.reduceLE, Int.reduceEq, Int.reduceNe, Int.reduceBEq, Int.reduceBNe, Int.reduceToNat, Int.reduceGT, Int.reduceGE, ↓reduceIte, decide_true, decide_false, eq_self, Nat.mul_one, Nat.zero_mul, Nat.one_mul, Int.le_refl, Nat.le_refl, Int.cast_ofNat_Int, Tryd.f27, rI, hsl, h1, h2, h3, Tn.tv, Tn.cs]
      | true =>
        have hp := inB_iff.1 h2
        have hq := inB_iff.1 h3
        obtain ⟨f, rfl⟩ := hs.ne (by omega)
        rw [ic_ints] at rI ⊢
        simp only [unI_eq, if_true] at rI
        have c1 : (0 ≤ p ∧ p ≤ 100000) ∧ 0 ≤ q ∧ q ≤ 100000 := by omega
        cases htr : trainP st p q with
        | none => simp (decide := true) (maxSteps := 4000000) only [go_sem, Nat.reduceAdd, Nat.reduceSub, Nat.reduceMul, Nat.reduceDiv, Nat.reduceMod, Nat.reduceLT, Nat.reduceLeDiff, Nat.reduceEqDiff, Nat.reduceBEq, Nat.reduceBNe, Nat.reduceGT, Int.reduceAdd, Int.reduceSub, Int.reduceMul, Int.reduceNeg, Int.reduceLT, Int.reduceLE, Int.reduceEq, Int.reduceNe, Int.reduceBEq, Int.reduceBNe, Int.reduceToNat, Int.reduceGT, Int.reduceGE, ↓reduceIte, decide_true, decide_false, eq_self, Nat.mul_one, Nat.zero_mul, Nat.one_mul, Int.le_refl, Nat.le_refl, Int.cast_ofNat_Int, Tryd.f27, rI, hsl, h1, h2, h3, unI_eq, c1, htr, Option.getD_none, noTn, Tn.tv, Tn.cs]
        | some tr =>
          have hn := tr_not htr
          simp (decide := true) (maxSteps := 4000000) only [go_sem, Nat.reduceAdd, Nat.reduceSub, Nat.reduceMul, Nat.reduceDiv, Nat.reduceMod, Nat.reduceLT, Nat.reduceLeDiff, Nat.reduceEqDiff, Nat.reduceBEq, Nat.reduceBNe, Nat.reduceGT, Int.reduceAdd, Int.reduceSub, Int.reduceMul, Int.reduceNeg, Int.reduceLT, Int.reduceLE, Int.reduceEq, Int.reduceNe, Int.reduceBEq, Int.reduceBNe, Int.reduceToNat, Int.reduceGT, Int.reduceGE, ↓reduceIte, decide_true, decide_false, eq_self, Nat.mul_one, Nat.zero_mul, Nat.one_mul, Int.le_refl, Nat.le_refl, Int.cast_ofNat_Int, Tryd.f27, rI, hsl, h1, h2, h3, unI_eq, c1, htr, Option.getD_some, hn, Tn.tv, Tn.cs, Bool.false_and]
def dfH (t : Int) (l : List Int) (f : Bool) (st : List Int) (fs : Bool) (n : Int) (i : Nat) (M : Int) (_ _ : Nat) : List PO :=
  [.box [.t (.int .i64 t), .t (.sl (ints l) l.length f)], .box [.t (.sl (ints st) st.length fs)], .box [.t (.int .i64 n)],
   .box [.t (.int .i64 0), .t (.int .i64 0), .t (.int .i64 0), .t (.int .i64 0), .t (.int .i64 0), .t (.int .i64 0), .t (.int .i64 0), .t (.int .i64 0), .t (.bool false)], .box [.t (.int .i64 0)],
   .box [.t (.int .i64 t), .t (.sl (ints l) l.length f)], .box [.t (.int .i64 ((i : Int) + 1))], .box [.t (.int .i64 M)]]
def dfH2 (t : Int) (l : List Int) (f : Bool) (st : List Int) (fs : Bool) (n : Int) (i : Nat) (M : Int) (x : Df) : List PO :=
  [.box [.t (.int .i64 t), .t (.sl (ints l) l.length f)], .box [.t (.sl (ints st) st.length fs)], .box [.t (.int .i64 n)],
   .box [.t (.int .i64 x.m), .t (.int .i64 x.p.c), .t (.int .i64 x.p.t), .t (.int .i64 x.p.h), .t (.int .i64 x.t.a), .t (.int .i64 x.t.b), .t (.int .i64 x.t.c), .t (.int .i64 x.t.d), .t (.bool x.on)], .box [.t (.int .i64 0)],
   .box [.t (.int .i64 t), .t (.sl (ints l) l.length f)], .box [.t (.int .i64 ((i : Int) + 1))], .box [.t (.int .i64 M)]]
theorem iDiff_c (t : Int) {l : List Int} {s : TV} (hl : IsRow ic s l) (hll : l.length ≤ 17592186044415) {st : List Int} {ss : TV} (hs : IsRow ic ss st) (hsl : st.length ≤ 17592186044415) (n : Int) : PCalls Tryd.prog 29 [.agg [.int .i64 t, s], ss, .int .i64 n] (.tup [(diffE t l st n).1.tv, .int .i64 (diffE t l st n).2]) := by
  have rI := rowI_is hl
  have rS := rowI_is hs
  unfold rowL at rI rS
  have hpc : pcells (.t ss) = some [.t ss] := by rcases hs with ⟨rfl, _⟩ | ⟨_, rfl⟩ <;> rfl
  have hop : openE t l n 2000 = if headOk t l = false then 10 else if inB n 1 2000 = false then 11 else 0 := rfl
  refine pcalls_by Tryd.mixes spF1_ok (fn := Tryd.f29) Tryd.func29 rfl (by kernel_rfl) (by show 3 ≤ _; decide) ?_
  unfold diffE
  cases h1 : headOk t l with
  | false =>
    rw [h1] at hop
    simp only [if_true] at hop
    simp (decide := true) (maxSteps := 4000000) only [go_sem, Nat.reduceAdd, Nat.reduceSub, Nat.reduceMul, Nat.reduceDiv, Nat.reduceMod, Nat.reduceLT, Nat.reduceLeDiff, Nat.reduceEqDiff, Nat.reduceBEq, Nat.reduceBNe, Nat.reduceGT, Int.reduceAdd, Int.reduceSub, Int.reduceMul, Int.reduceNeg, Int.reduceLT, Int.reduceLE, Int.reduceEq, Int.reduceNe, Int.reduceBEq, Int.reduceBNe, Int.reduceToNat, Int.reduceGT, Int.reduceGE, ↓reduceIte, decide_true, decide_false, eq_self, Nat.mul_one, Nat.zero_mul, Nat.one_mul, Int.le_refl, Nat.le_refl, Int.cast_ofNat_Int, Tryd.f29, hpc, rI, hll, hop, Df.tv, Df.cs, Pl.cs, Tn.cs]
  | true =>
    rw [h1] at hop
    simp only [Bool.true_eq_false, if_false] at hop
    cases h2 : inB n 1 2000 with
    | false =>
      rw [h2] at hop
      simp only [if_true] at hop
      simp (decide := true) (maxSteps := 4000000) only [go_sem, Nat.reduceAdd, Nat.reduceSub, Nat.reduceMul, Nat.reduceDiv, Nat.reduceMod, Nat.reduceLT, Nat.reduceLeDiff, Nat.reduceEqDiff, Nat.reduceBEq, Nat.reduceBNe, Nat.reduceGT, Int.reduceAdd, Int.reduceSub, Int.reduceMul, Int.reduceNeg, Int.reduceLT, Int.reduceLE, Int.reduceEq, Int.reduceNe, Int.reduceBEq, Int.reduceBNe, Int.reduceToNat, Int.reduceGT, Int.reduceGE, ↓reduceIte, decide_true, decide_false, eq_self, Nat.mul_one, Nat.zero_mul, Nat.one_mul, Int.le_refl, Nat.le_refl, Int.cast_ofNat_Int, Tryd.f29, hpc, rI, hll, hop, Df.tv, Df.cs, Pl.cs, Tn.cs]
    | true =>
      rw [h2] at hop
      simp only [Bool.true_eq_false, if_false] at hop
      cases h3 : stockOk1 st with
      | false => simp (decide := true) (maxSteps := 4000000) only [go_sem, Nat.reduceAdd, Nat.reduceSub, Nat.reduceMul, Nat.reduceDiv, Nat.reduceMod, Nat.reduceLT, Nat.reduceLeDiff, Nat.reduceEqDiff, Nat.reduceBEq, Nat.reduceBNe, Nat.reduceGT, Int.reduceAdd, Int.reduceSub, Int.reduceMul, Int.reduceNeg, Int.reduceLT, Int.reduceLE, Int.reduceEq, Int.reduceNe, Int.reduceBEq, Int.reduceBNe, Int.reduceToNat, Int.reduceGT, Int.reduceGE, ↓reduceIte, decide_true, decide_false, eq_self, Nat.mul_one, Nat.zero_mul, Nat.one_mul, Int.le_refl, Nat.le_refl, Int.cast_ofNat_Int, Tryd.f29, hpc, rI, hll, hop, rS, hsl, h3, Df.tv, Df.cs, Pl.cs, Tn.cs]
      | true =>
        have hh := headOk_iff.1 h1
        have hn := inB_iff.1 h2
        have hk := stockOk1_iff.1 h3
        obtain ⟨f, rfl⟩ := hl.ne (by omega)
        obtain ⟨fs, rfl⟩ := hs.ne (by omega)
        rw [ic_ints] at rI rS ⊢
        rw [ic_ints]
        simp only [unI_eq, if_true] at rI rS
        have hstk := h3
        simp (decide := true) (maxSteps := 4000000) only [go_sem, Nat.reduceAdd, Nat.reduceSub, Nat.reduceMul, Nat.reduceDiv, Nat.reduceMod, Nat.reduceLT, Nat.reduceLeDiff, Nat.reduceEqDiff, Nat.reduceBEq, Nat.reduceBNe, Nat.reduceGT, Int.reduceAdd, Int.reduceSub, Int.reduceMul, Int.reduceNeg, Int.reduceLT, Int.reduceLE, Int.reduceEq, Int.reduceNe, Int.reduceBEq, Int.reduceBNe, Int.reduceToNat, Int.reduceGT, Int.reduceGE, ↓reduceIte, decide_true, decide_false, eq_self, Nat.mul_one, Nat.zero_mul, Nat.one_mul, Int.le_refl, Nat.le_refl, Int.cast_ofNat_Int, Tryd.f29, rI, hll, hop, rS, hsl, h3]
        refine pwpC_loopU (A := { i : Nat // i ≤ 20 ∧ fsTo (fun i : Nat => diff2 t l st n ((i : Int) + 1)) i = none }) [3, 4, 5, 6, 7, 8, 9] (fun i => [(30, .t (.int .i64 i.1))]) (fun _ => []) (fun i => 20 - i.1) ⟨0, by omega, rfl⟩ (by decide) (fun _ => by rfl) ?_ fun Q1 hQ1 ⟨i, hi, hno⟩ I1 hI1 => ?_
        · simp (decide := true) (maxSteps := 4000000) only [go_sem, Nat.reduceAdd, Nat.reduceSub, Nat.reduceMul, Nat.reduceDiv, Nat.reduceMod, Nat.reduceLT, Nat.reduceLeDiff, Nat.reduceEqDiff, Nat.reduceBEq, Nat.reduceBNe, Nat.reduceGT, Int.reduceAdd, Int.reduceSub, Int.reduceMul, Int.reduceNeg, Int.reduceLT, Int.reduceLE, Int.reduceEq, Int.reduceNe, Int.reduceBEq, Int.reduceBNe, Int.reduceToNat, Int.reduceGT, Int.reduceGE, ↓reduceIte, decide_true, decide_false, eq_self, Nat.mul_one, Nat.zero_mul, Nat.one_mul, Int.le_refl, Nat.le_refl, Int.cast_ofNat_Int]
        · by_cases hlt : (i : Int) < 20
          · have hi1 : IntKind.i64.wrap ((i : Int) + 1) = (i : Int) + 1 := wrap_in (by omega) (by omega)
            have hi3 : IntKind.i64.wrap ((i : Int) + 1) = ((i + 1 : Nat) : Int) := by rw [hi1]; omega
            have wm1 : IntKind.i64.wrap (n - ((i : Int) + 1)) = n - ((i : Int) + 1) := wrap_in (by omega) (by omega)
            have wm2 : IntKind.i64.wrap (n + ((i : Int) + 1)) = n + ((i : Int) + 1) := wrap_in (by omega) (by omega)
            have mta := mulB (a := t) (b := (i : Int) + 1) (A := 400) (B := 20) (by omega) (by omega) (by omega) (by omega)
            have wta : IntKind.i64.wrap (t * ((i : Int) + 1)) = t * ((i : Int) + 1) := wrap_in (by omega) (by omega)
            have hpT : 0 ≤ t * ((i : Int) + 1) ∧ t * ((i : Int) + 1) ≤ 100000 := by omega
            simp (decide := true) (maxSteps := 4000000) only [go_sem, Nat.reduceAdd, Nat.reduceSub, Nat.reduceMul, Nat.reduceDiv, Nat.reduceMod, Nat.reduceLT, Nat.reduceLeDiff, Nat.reduceEqDiff, Nat.reduceBEq, Nat.reduceBNe, Nat.reduceGT, Int.reduceAdd, Int.reduceSub, Int.reduceMul, Int.reduceNeg, Int.reduceLT, Int.reduceLE, Int.reduceEq, Int.reduceNe, Int.reduceBEq, Int.reduceBNe, Int.reduceToNat, Int.reduceGT, Int.reduceGE, ↓reduceIte, decide_true, decide_false, eq_self, Nat.mul_one, Nat.zero_mul, Nat.one_mul, Int.le_refl, Nat.le_refl, Int.cast_ofNat_Int, hlt, hi1, wm1, wm2]
            refine pwpC_loopU (A := { k : Nat // k ≤ 2 ∧ (1 ≤ k → diff1 t l st n ((i : Int) + 1) (n - ((i : Int) + 1)) = none) ∧ (2 ≤ k → diff1 t l st n ((i : Int) + 1) (n + ((i : Int) + 1)) = none) }) [3, 4, 5, 6, 7, 8, 9, 10, 11, 30, 41] (fun k => [(42, .t (.int .i64 k.1))]) (fun _ => []) (fun k => 2 - k.1) ⟨0, by omega, by omega, by omega⟩ (by decide) (fun _ => by rfl) ?_ fun Q2 hQ2 ⟨k, hk2, i1, i2⟩ I2 hI2 => ?_
            · simp (decide := true) (maxSteps := 4000000) only [go_sem, Nat.reduceAdd, Nat.reduceSub, Nat.reduceMul, Nat.reduceDiv, Nat.reduceMod, Nat.reduceLT, Nat.reduceLeDiff, Nat.reduceEqDiff, Nat.reduceBEq, Nat.reduceBNe, Nat.reduceGT, Int.reduceAdd, Int.reduceSub, Int.reduceMul, Int.reduceNeg, Int.reduceLT, Int.reduceLE, Int.reduceEq, Int.reduceNe, Int.reduceBEq, Int.reduceBNe, Int.reduceToNat, Int.reduceGT, Int.reduceGE, ↓reduceIte, decide_true, decide_false, eq_self, Nat.mul_one, Nat.zero_mul, Nat.one_mul, Int.le_refl, Nat.le_refl, Int.cast_ofNat_Int]
            · rcases (show k = 0 ∨ k = 1 ∨ k = 2 by omega) with rfl | rfl | rfl
              · obtain ⟨M, hM⟩ : ∃ M, n - ((i : Int) + 1) = M := ⟨_, rfl⟩
                cases hmB : inB M 1 20000 with
                | false =>
                  have hdn : diff1 t l st n ((i : Int) + 1) M = none := by unfold diff1; rw [if_pos hmB]
                  simp (decide := true) (maxSteps := 4000000) only [go_sem, Nat.reduceAdd, Nat.reduceSub, Nat.reduceMul, Nat.reduceDiv, Nat.reduceMod, Nat.reduceLT, Nat.reduceLeDiff, Nat.reduceEqDiff, Nat.reduceBEq, Nat.reduceBNe, Nat.reduceGT, Int.reduceAdd, Int.reduceSub, Int.reduceMul, Int.reduceNeg, Int.reduceLT, Int.reduceLE, Int.reduceEq, Int.reduceNe, Int.reduceBEq, Int.reduceBNe, Int.reduceToNat, Int.reduceGT, Int.reduceGE, ↓reduceIte, decide_true, decide_false, eq_self, Nat.mul_one, Nat.zero_mul, Nat.one_mul, Int.le_refl, Nat.le_refl, Int.cast_ofNat_Int, hM, hmB]
                  try (refine hQ2 _ _ ?_)
                  try simp (decide := true) (maxSteps := 4000000) only [go_sem, Nat.reduceAdd, Nat.reduceSub, Nat.reduceMul, Nat.reduceDiv, Nat.reduceMod, Nat.reduceLT, Nat.reduceLeDiff, Nat.reduceEqDiff, Nat.reduceBEq, Nat.reduceBNe, Nat.reduceGT, Int.reduceAdd, Int.reduceSub, Int.reduceMul, Int.reduceNeg, Int.reduceLT, Int.reduceLE, Int.reduceEq, Int.reduceNe, Int.reduceBEq, Int.reduceBNe, Int.reduceToNat, Int.reduceGT, Int.reduceGE, ↓reduceIte, decide_true, decide_false, eq_self, Nat.mul_one, Nat.zero_mul, Nat.one_mul, Int.le_refl, Nat.le_refl, Int.cast_ofNat_Int]
                  refine hI2 _ ⟨1, by omega, fun _ => by rw [hM]; exact hdn, by omega⟩ (by simp only; omega) ?_
                  simp (decide := true) (maxSteps := 4000000) only [go_sem, Nat.reduceAdd, Nat.reduceSub, Nat.reduceMul, Nat.reduceDiv, Nat.reduceMod, Nat.reduceLT, Nat.reduceLeDiff, Nat.reduceEqDiff, Nat.reduceBEq, Nat.reduceBNe, Nat.reduceGT, Int.reduceAdd, Int.reduceSub, Int.reduceMul, Int.reduceNeg, Int.reduceLT, Int.reduceLE, Int.reduceEq, Int.reduceNe, Int.reduceBEq, Int.reduceBNe, Int.reduceToNat, Int.reduceGT, Int.reduceGE, ↓reduceIte, decide_true, decide_false, eq_self, Nat.mul_one, Nat.zero_mul, Nat.one_mul, Int.le_refl, Nat.le_refl, Int.cast_ofNat_Int, hM]
                | true =>
                  have hmb := inB_iff.1 hmB
                  have hmT : 0 ≤ M ∧ M ≤ 100000 := by omega
                  simp (decide := true) (maxSteps := 4000000) only [go_sem, Nat.reduceAdd, Nat.reduceSub, Nat.reduceMul, Nat.reduceDiv, Nat.reduceMod, Nat.reduceLT, Nat.reduceLeDiff, Nat.reduceEqDiff, Nat.reduceBEq, Nat.reduceBNe, Nat.reduceGT, Int.reduceAdd, Int.reduceSub, Int.reduceMul, Int.reduceNeg, Int.reduceLT, Int.reduceLE, Int.reduceEq, Int.reduceNe, Int.reduceBEq, Int.reduceBNe, Int.reduceToNat, Int.reduceGT, Int.reduceGE, ↓reduceIte, decide_true, decide_false, eq_self, Nat.mul_one, Nat.zero_mul, Nat.one_mul, Int.le_refl, Nat.le_refl, Int.cast_ofNat_Int, hM, hmB]
                  cases hpl : plansP t l M with
                  | nil =>
                    have hdn : diff1 t l st n ((i : Int) + 1) M = none := by unfold diff1; rw [if_neg (by rw [hmB]; simp), hpl]
                    have hpv : planV t l M = [] := by unfold planV; rw [hpl]; rfl
                    refine pwpC_range rfl 61 [] [.cptr [.int .i64 t, .sl (ints l) l.length f], .cptr [.int .i64 M]] (planV t l M)
                      [(50, .t (.fn 61 [] [.cptr [.int .i64 t, .sl (ints l) l.length f], .cptr [.int .i64 M]])), (3, .ptr 0 0), (4, .ptr 1 0), (5, .ptr 2 0), (6, .ptr 3 0), (7, .ptr 4 0), (8, .ptr 5 0), (9, .t (.int .i64 0)), (10, .t (.int .i64 i)), (11, .ptr 6 0), (13, .ptr 7 0), (30, .t (.int .i64 i)), (41, .t (.agg [.int .i64 (M), .int .i64 (n + ((i : Int) + 1))])), (42, .t (.int .i64 0))]
                      (fun _ => dfH t l f st fs n i M 0 0) 8 ?_ (by rfl) (by rfl) ?_ (iPlans1_c f h1 hmb.1 hmb.2) ?_ (fun i => by simp [dfH]) (fun i => rfl) (fun i x hx => ?_) ?_
                    · simp (decide := true) (maxSteps := 4000000) only [go_sem, Nat.reduceAdd, Nat.reduceSub, Nat.reduceMul, Nat.reduceDiv, Nat.reduceMod, Nat.reduceLT, Nat.reduceLeDiff, Nat.reduceEqDiff, Nat.reduceBEq, Nat.reduceBNe, Nat.reduceGT, Int.reduceAdd, Int.reduceSub, Int.reduceMul, Int.reduceNeg, Int.reduceLT, Int.reduceLE, Int.reduceEq, Int.reduceNe, Int.reduceBEq, Int.reduceBNe, Int.reduceToNat, Int.reduceGT, Int.reduceGE, ↓reduceIte, decide_true, decide_false, eq_self, Nat.mul_one, Nat.zero_mul, Nat.one_mul, Int.le_refl, Nat.le_refl, Int.cast_ofNat_Int, dfH]
                    · simp (decide := true) (maxSteps := 4000000) only [go_sem, Nat.reduceAdd, Nat.reduceSub, Nat.reduceMul, Nat.reduceDiv, Nat.reduceMod, Nat.reduceLT, Nat.reduceLeDiff, Nat.reduceEqDiff, Nat.reduceBEq, Nat.reduceBNe, Nat.reduceGT, Int.reduceAdd, Int.reduceSub, Int.reduceMul, Int.reduceNeg, Int.reduceLT, Int.reduceLE, Int.reduceEq, Int.reduceNe, Int.reduceBEq, Int.reduceBNe, Int.reduceToNat, Int.reduceGT, Int.reduceGE, ↓reduceIte, decide_true, decide_false, eq_self, Nat.mul_one, Nat.zero_mul, Nat.one_mul, Int.le_refl, Nat.le_refl, Int.cast_ofNat_Int]
                    · intro x hx; rw [hpv] at hx; cases hx
                    · rw [hpv] at hx; simp at hx
                    · simp (decide := true) (maxSteps := 4000000) only [go_sem, Nat.reduceAdd, Nat.reduceSub, Nat.reduceMul, Nat.reduceDiv, Nat.reduceMod, Nat.reduceLT, Nat.reduceLeDiff, Nat.reduceEqDiff, Nat.reduceBEq, Nat.reduceBNe, Nat.reduceGT, Int.reduceAdd, Int.reduceSub, Int.reduceMul, Int.reduceNeg, Int.reduceLT, Int.reduceLE, Int.reduceEq, Int.reduceNe, Int.reduceBEq, Int.reduceBNe, Int.reduceToNat, Int.reduceGT, Int.reduceGE, ↓reduceIte, decide_true, decide_false, eq_self, Nat.mul_one, Nat.zero_mul, Nat.one_mul, Int.le_refl, Nat.le_refl, Int.cast_ofNat_Int, dfH]
                      refine hI2 _ ⟨1, by omega, fun _ => by rw [hM]; exact hdn, by omega⟩ (by simp only; omega) ?_
                      simp (decide := true) (maxSteps := 4000000) only [go_sem, Nat.reduceAdd, Nat.reduceSub, Nat.reduceMul, Nat.reduceDiv, Nat.reduceMod, Nat.reduceLT, Nat.reduceLeDiff, Nat.reduceEqDiff, Nat.reduceBEq, Nat.reduceBNe, Nat.reduceGT, Int.reduceAdd, Int.reduceSub, Int.reduceMul, Int.reduceNeg, Int.reduceLT, Int.reduceLE, Int.reduceEq, Int.reduceNe, Int.reduceBEq, Int.reduceBNe, Int.reduceToNat, Int.reduceGT, Int.reduceGE, ↓reduceIte, decide_true, decide_false, eq_self, Nat.mul_one, Nat.zero_mul, Nat.one_mul, Int.le_refl, Nat.le_refl, Int.cast_ofNat_Int, hM]
                  | cons pl pls =>
                    have hpv : planV t l M = [pl.tv] :: pls.map fun p => [p.tv] := by unfold planV; rw [hpl]; rfl
                    have hI := iPlans1_c f h1 hmb.1 hmb.2
                    rw [hpv] at hI
                    cases htr : trainP st (t * ((i : Int) + 1)) M with
                    | none =>
                      have hdn : diff1 t l st n ((i : Int) + 1) M = none := by unfold diff1; rw [if_neg (by rw [hmB]; simp), hpl]; simp only [htr]
                      refine pwpC_range1 rfl 61 [] [.cptr [.int .i64 t, .sl (ints l) l.length f], .cptr [.int .i64 M]] [pl.tv] (pls.map fun p => [p.tv]) (.exit 4) rfl
                        [(50, .t (.fn 61 [] [.cptr [.int .i64 t, .sl (ints l) l.length f], .cptr [.int .i64 M]])), (3, .ptr 0 0), (4, .ptr 1 0), (5, .ptr 2 0), (6, .ptr 3 0), (7, .ptr 4 0), (8, .ptr 5 0), (9, .t (.int .i64 0)), (10, .t (.int .i64 i)), (11, .ptr 6 0), (13, .ptr 7 0), (30, .t (.int .i64 i)), (41, .t (.agg [.int .i64 (M), .int .i64 (n + ((i : Int) + 1))])), (42, .t (.int .i64 0))]
                        (dfH t l f st fs n i M 0 0) (dfH t l f st fs n i M 0 0) 8 ?_ (by rfl) (by rfl) ?_ hI ?_ (by simp [dfH]) (by simp [dfH]) rfl ?_ ?_
                      · simp (decide := true) (maxSteps := 4000000) only [go_sem, Nat.reduceAdd, Nat.reduceSub, Nat.reduceMul, Nat.reduceDiv, Nat.reduceMod, Nat.reduceLT, Nat.reduceLeDiff, Nat.reduceEqDiff, Nat.reduceBEq, Nat.reduceBNe, Nat.reduceGT, Int.reduceAdd, Int.reduceSub, Int.reduceMul, Int.reduceNeg, Int.reduceLT, Int.reduceLE, Int.reduceEq, Int.reduceNe, Int.reduceBEq, Int.reduceBNe, Int.reduceToNat, Int.reduceGT, Int.reduceGE, ↓reduceIte, decide_true, decide_false, eq_self, Nat.mul_one, Nat.zero_mul, Nat.one_mul, Int.le_refl, Nat.le_refl, Int.cast_ofNat_Int, dfH]
                      · simp (decide := true) (maxSteps := 4000000) only [go_sem, Nat.reduceAdd, Nat.reduceSub, Nat.reduceMul, Nat.reduceDiv, Nat.reduceMod, Nat.reduceLT, Nat.reduceLeDiff, Nat.reduceEqDiff, Nat.reduceBEq, Nat.reduceBNe, Nat.reduceGT, Int.reduceAdd, Int.reduceSub, Int.reduceMul, Int.reduceNeg, Int.reduceLT, Int.reduceLE, Int.reduceEq, Int.reduceNe, Int.reduceBEq, Int.reduceBNe, Int.reduceToNat, Int.reduceGT, Int.reduceGE, ↓reduceIte, decide_true, decide_false, eq_self, Nat.mul_one, Nat.zero_mul, Nat.one_mul, Int.le_refl, Nat.le_refl, Int.cast_ofNat_Int]
                      · intro x hx
                        rcases List.mem_cons.1 hx with rfl | hx
                        · rfl
                        · obtain ⟨p', _, rfl⟩ := List.mem_map.1 hx; rfl
                      · simp (decide := true) (maxSteps := 4000000) only [go_sem, Nat.reduceAdd, Nat.reduceSub, Nat.reduceMul, Nat.reduceDiv, Nat.reduceMod, Nat.reduceLT, Nat.reduceLeDiff, Nat.reduceEqDiff, Nat.reduceBEq, Nat.reduceBNe, Nat.reduceGT, Int.reduceAdd, Int.reduceSub, Int.reduceMul, Int.reduceNeg, Int.reduceLT, Int.reduceLE, Int.reduceEq, Int.reduceNe, Int.reduceBEq, Int.reduceBNe, Int.reduceToNat, Int.reduceGT, Int.reduceGE, ↓reduceIte, decide_true, decide_false, eq_self, Nat.mul_one, Nat.zero_mul, Nat.one_mul, Int.le_refl, Nat.le_refl, Int.cast_ofNat_Int, dfH, Pl.tv, Pl.cs, wta, hstk, unI_eq, hpT, hmT, htr, Option.getD_none, noTn, Tn.tv, Tn.cs]
                      · simp (decide := true) (maxSteps := 4000000) only [go_sem, Nat.reduceAdd, Nat.reduceSub, Nat.reduceMul, Nat.reduceDiv, Nat.reduceMod, Nat.reduceLT, Nat.reduceLeDiff, Nat.reduceEqDiff, Nat.reduceBEq, Nat.reduceBNe, Nat.reduceGT, Int.reduceAdd, Int.reduceSub, Int.reduceMul, Int.reduceNeg, Int.reduceLT, Int.reduceLE, Int.reduceEq, Int.reduceNe, Int.reduceBEq, Int.reduceBNe, Int.reduceToNat, Int.reduceGT, Int.reduceGE, ↓reduceIte, decide_true, decide_false, eq_self, Nat.mul_one, Nat.zero_mul, Nat.one_mul, Int.le_refl, Nat.le_refl, Int.cast_ofNat_Int, dfH]
                        refine hI2 _ ⟨1, by omega, fun _ => by rw [hM]; exact hdn, by omega⟩ (by simp only; omega) ?_
                        simp (decide := true) (maxSteps := 4000000) only [go_sem, Nat.reduceAdd, Nat.reduceSub, Nat.reduceMul, Nat.reduceDiv, Nat.reduceMod, Nat.reduceLT, Nat.reduceLeDiff, Nat.reduceEqDiff, Nat.reduceBEq, Nat.reduceBNe, Nat.reduceGT, Int.reduceAdd, Int.reduceSub, Int.reduceMul, Int.reduceNeg, Int.reduceLT, Int.reduceLE, Int.reduceEq, Int.reduceNe, Int.reduceBEq, Int.reduceBNe, Int.reduceToNat, Int.reduceGT, Int.reduceGE, ↓reduceIte, decide_true, decide_false, eq_self, Nat.mul_one, Nat.zero_mul, Nat.one_mul, Int.le_refl, Nat.le_refl, Int.cast_ofNat_Int, hM]
                    | some tr =>
                      have hdn : diff1 t l st n ((i : Int) + 1) M = some ⟨M, pl, tr, decide (M > n)⟩ := by unfold diff1; rw [if_neg (by rw [hmB]; simp), hpl]; simp only [htr]
                      have hres : diffP t l st n = some ⟨M, pl, tr, decide (M > n)⟩ := fsTo_hit hno (show i < 20 by omega) (by show diff2 t l st n ((i : Int) + 1) = _; unfold diff2; rw [hM, hdn])
                      have hta : (tr.a == -1) = false := beq_int_f (by rcases train_some htr with ⟨_, _, _, _, _, _, e⟩ | ⟨_, _, _, _, _, _, _, _, e⟩ <;> rw [e] <;> simp only <;> omega)
                      refine pwpC_range1 rfl 61 [] [.cptr [.int .i64 t, .sl (ints l) l.length f], .cptr [.int .i64 M]] [pl.tv] (pls.map fun p => [p.tv]) .ret rfl
                        [(50, .t (.fn 61 [] [.cptr [.int .i64 t, .sl (ints l) l.length f], .cptr [.int .i64 M]])), (3, .ptr 0 0), (4, .ptr 1 0), (5, .ptr 2 0), (6, .ptr 3 0), (7, .ptr 4 0), (8, .ptr 5 0), (9, .t (.int .i64 0)), (10, .t (.int .i64 i)), (11, .ptr 6 0), (13, .ptr 7 0), (30, .t (.int .i64 i)), (41, .t (.agg [.int .i64 (M), .int .i64 (n + ((i : Int) + 1))])), (42, .t (.int .i64 0))]
                        (dfH t l f st fs n i M 0 0) (dfH2 t l f st fs n i M ⟨M, pl, tr, decide (M > n)⟩) 8 ?_ (by rfl) (by rfl) ?_ hI ?_ (by simp [dfH]) (by simp [dfH2]) rfl ?_ ?_
                      · simp (decide := true) (maxSteps := 4000000) only [go_sem, Nat.reduceAdd, Nat.reduceSub, Nat.reduceMul, Nat.reduceDiv, Nat.reduceMod, Nat.reduceLT, Nat.reduceLeDiff, Nat.reduceEqDiff, Nat.reduceBEq, Nat.reduceBNe, Nat.reduceGT, Int.reduceAdd, Int.reduceSub, Int.reduceMul, Int.reduceNeg, Int.reduceLT, Int.reduceLE, Int.reduceEq, Int.reduceNe, Int.reduceBEq, Int.reduceBNe, Int.reduceToNat, Int.reduceGT, Int.reduceGE, ↓reduceIte, decide_true, decide_false, eq_self, Nat.mul_one, Nat.zero_mul, Nat.one_mul, Int.le_refl, Nat.le_refl, Int.cast_ofNat_Int, dfH]
                      · simp (decide := true) (maxSteps := 4000000) only [go_sem, Nat.reduceAdd, Nat.reduceSub, Nat.reduceMul, Nat.reduceDiv, Nat.reduceMod, Nat.reduceLT, Nat.reduceLeDiff, Nat.reduceEqDiff, Nat.reduceBEq, Nat.reduceBNe, Nat.reduceGT, Int.reduceAdd, Int.reduceSub, Int.reduceMul, Int.reduceNeg, Int.reduceLT, Int.reduceLE, Int.reduceEq, Int.reduceNe, Int.reduceBEq, Int.reduceBNe, Int.reduceToNat, Int.reduceGT, Int.reduceGE, ↓reduceIte, decide_true, decide_false, eq_self, Nat.mul_one, Nat.zero_mul, Nat.one_mul, Int.le_refl, Nat.le_refl, Int.cast_ofNat_Int]
                      · intro x hx
                        rcases List.mem_cons.1 hx with rfl | hx
                        · rfl
                        · obtain ⟨p', _, rfl⟩ := List.mem_map.1 hx; rfl
                      · simp (decide := true) (maxSteps := 4000000) only [go_sem, Nat.reduceAdd, Nat.reduceSub, Nat.reduceMul, Nat.reduceDiv, Nat.reduceMod, Nat.reduceLT, Nat.reduceLeDiff, Nat.reduceEqDiff, Nat.reduceBEq, Nat.reduceBNe, Nat.reduceGT, Int.reduceAdd, Int.reduceSub, Int.reduceMul, Int.reduceNeg, Int.reduceLT, Int.reduceLE, Int.reduceEq, Int.reduceNe, Int.reduceBEq, Int.reduceBNe, Int.reduceToNat, Int.reduceGT, Int.reduceGE, ↓reduceIte, decide_true, decide_false, eq_self, Nat.mul_one, Nat.zero_mul, Nat.one_mul, Int.le_refl, Nat.le_refl, Int.cast_ofNat_Int, dfH, dfH2, Pl.tv, Pl.cs, wta, hstk, unI_eq, hpT, hmT, htr, Option.getD_some, Tn.tv, Tn.cs, hta, Bool.false_and]
                        first | done | rfl
                      · simp (decide := true) (maxSteps := 4000000) only [go_sem, Nat.reduceAdd, Nat.reduceSub, Nat.reduceMul, Nat.reduceDiv, Nat.reduceMod, Nat.reduceLT, Nat.reduceLeDiff, Nat.reduceEqDiff, Nat.reduceBEq, Nat.reduceBNe, Nat.reduceGT, Int.reduceAdd, Int.reduceSub, Int.reduceMul, Int.reduceNeg, Int.reduceLT, Int.reduceLE, Int.reduceEq, Int.reduceNe, Int.reduceBEq, Int.reduceBNe, Int.reduceToNat, Int.reduceGT, Int.reduceGE, ↓reduceIte, decide_true, decide_false, eq_self, Nat.mul_one, Nat.zero_mul, Nat.one_mul, Int.le_refl, Nat.le_refl, Int.cast_ofNat_Int, dfH2]
                        try (refine hQ2 _ _ ?_)
                        try simp (decide := true) (maxSteps := 4000000) only [go_sem, Nat.reduceAdd, Nat.reduceSub, Nat.reduceMul, Nat.reduceDiv, Nat.reduceMod, Nat.reduceLT, Nat.reduceLeDiff, Nat.reduceEqDiff, Nat.reduceBEq, Nat.reduceBNe, Nat.reduceGT, Int.reduceAdd, Int.reduceSub, Int.reduceMul, Int.reduceNeg, Int.reduceLT, Int.reduceLE, Int.reduceEq, Int.reduceNe, Int.reduceBEq, Int.reduceBNe, Int.reduceToNat, Int.reduceGT, Int.reduceGE, ↓reduceIte, decide_true, decide_false, eq_self, Nat.mul_one, Nat.zero_mul, Nat.one_mul, Int.le_refl, Nat.le_refl, Int.cast_ofNat_Int]
                        try (refine hQ1 _ _ ?_)
                        try simp (decide := true) (maxSteps := 4000000) only [go_sem, Nat.reduceAdd, Nat.reduceSub, Nat.reduceMul, Nat.reduceDiv, Nat.reduceMod, Nat.reduceLT, Nat.reduceLeDiff, Nat.reduceEqDiff, Nat.reduceBEq, Nat.reduceBNe, Nat.reduceGT, Int.reduceAdd, Int.reduceSub, Int.reduceMul, Int.reduceNeg, Int.reduceLT, Int.reduceLE, Int.reduceEq, Int.reduceNe, Int.reduceBEq, Int.reduceBNe, Int.reduceToNat, Int.reduceGT, Int.reduceGE, ↓reduceIte, decide_true, decide_false, eq_self, Nat.mul_one, Nat.zero_mul, Nat.one_mul, Int.le_refl, Nat.le_refl, Int.cast_ofNat_Int]
                        rw [hres]
                        first | done | exact ⟨rfl, rfl⟩ | rfl
              · obtain ⟨M, hM⟩ : ∃ M, n + ((i : Int) + 1) = M := ⟨_, rfl⟩
                cases hmB : inB M 1 20000 with
                | false =>
                  have hdn : diff1 t l st n ((i : Int) + 1) M = none := by unfold diff1; rw [if_pos hmB]
                  simp (decide := true) (maxSteps := 4000000) only [go_sem, Nat.reduceAdd, Nat.reduceSub, Nat.reduceMul, Nat.reduceDiv, Nat.reduceMod, Nat.reduceLT, Nat.reduceLeDiff, Nat.reduceEqDiff, Nat.reduceBEq, Nat.reduceBNe, Nat.reduceGT, Int.reduceAdd, Int.reduceSub, Int.reduceMul, Int.reduceNeg, Int.reduceLT, Int.reduceLE, Int.reduceEq, Int.reduceNe, Int.reduceBEq, Int.reduceBNe, Int.reduceToNat, Int.reduceGT, Int.reduceGE, ↓reduceIte, decide_true, decide_false, eq_self, Nat.mul_one, Nat.zero_mul, Nat.one_mul, Int.le_refl, Nat.le_refl, Int.cast_ofNat_Int, hM, hmB]
                  try (refine hQ2 _ _ ?_)
                  try simp (decide := true) (maxSteps := 4000000) only [go_sem, Nat.reduceAdd, Nat.reduceSub, Nat.reduceMul, Nat.reduceDiv, Nat.reduceMod, Nat.reduceLT, Nat.reduceLeDiff, Nat.reduceEqDiff, Nat.reduceBEq, Nat.reduceBNe, Nat.reduceGT, Int.reduceAdd, Int.reduceSub, Int.reduceMul, Int.reduceNeg, Int.reduceLT, Int.reduceLE, Int.reduceEq, Int.reduceNe, Int.reduceBEq, Int.reduceBNe, Int.reduceToNat, Int.reduceGT, Int.reduceGE, ↓reduceIte, decide_true, decide_false, eq_self, Nat.mul_one, Nat.zero_mul, Nat.one_mul, Int.le_refl, Nat.le_refl, Int.cast_ofNat_Int]
                  refine hI2 _ ⟨2, by omega, fun _ => i1 (by omega), fun _ => by rw [hM]; exact hdn⟩ (by simp only; omega) ?_
                  simp (decide := true) (maxSteps := 4000000) only [go_sem, Nat.reduceAdd, Nat.reduceSub, Nat.reduceMul, Nat.reduceDiv, Nat.reduceMod, Nat.reduceLT, Nat.reduceLeDiff, Nat.reduceEqDiff, Nat.reduceBEq, Nat.reduceBNe, Nat.reduceGT, Int.reduceAdd, Int.reduceSub, Int.reduceMul, Int.reduceNeg, Int.reduceLT, Int.reduceLE, Int.reduceEq, Int.reduceNe, Int.reduceBEq, Int.reduceBNe, Int.reduceToNat, Int.reduceGT, Int.reduceGE, ↓reduceIte, decide_true, decide_false, eq_self, Nat.mul_one, Nat.zero_mul, Nat.one_mul, Int.le_refl, Nat.le_refl, Int.cast_ofNat_Int, hM]
                | true =>
                  have hmb := inB_iff.1 hmB
                  have hmT : 0 ≤ M ∧ M ≤ 100000 := by omega
                  simp (decide := true) (maxSteps := 4000000) only [go_sem, Nat.reduceAdd, Nat.reduceSub, Nat.reduceMul, Nat.reduceDiv, Nat.reduceMod, Nat.reduceLT, Nat.reduceLeDiff, Nat.reduceEqDiff, Nat.reduceBEq, Nat.reduceBNe, Nat.reduceGT, Int.reduceAdd, Int.reduceSub, Int.reduceMul, Int.reduceNeg, Int.reduceLT, Int.reduceLE, Int.reduceEq, Int.reduceNe, Int.reduceBEq, Int.reduceBNe, Int.reduceToNat, Int.reduceGT, Int.reduceGE, ↓reduceIte, decide_true, decide_false, eq_self, Nat.mul_one, Nat.zero_mul, Nat.one_mul, Int.le_refl, Nat.le_refl, Int.cast_ofNat_Int, hM, hmB]
                  cases hpl : plansP t l M with
                  | nil =>
                    have hdn : diff1 t l st n ((i : Int) + 1) M = none := by unfold diff1; rw [if_neg (by rw [hmB]; simp), hpl]
                    have hpv : planV t l M = [] := by unfold planV; rw [hpl]; rfl
                    refine pwpC_range rfl 61 [] [.cptr [.int .i64 t, .sl (ints l) l.length f], .cptr [.int .i64 M]] (planV t l M)
                      [(50, .t (.fn 61 [] [.cptr [.int .i64 t, .sl (ints l) l.length f], .cptr [.int .i64 M]])), (3, .ptr 0 0), (4, .ptr 1 0), (5, .ptr 2 0), (6, .ptr 3 0), (7, .ptr 4 0), (8, .ptr 5 0), (9, .t (.int .i64 0)), (10, .t (.int .i64 i)), (11, .ptr 6 0), (13, .ptr 7 0), (30, .t (.int .i64 i)), (41, .t (.agg [.int .i64 (n - ((i : Int) + 1)), .int .i64 (M)])), (42, .t (.int .i64 1))]
                      (fun _ => dfH t l f st fs n i M 0 0) 8 ?_ (by rfl) (by rfl) ?_ (iPlans1_c f h1 hmb.1 hmb.2) ?_ (fun i => by simp [dfH]) (fun i => rfl) (fun i x hx => ?_) ?_
                    · simp (decide := true) (maxSteps := 4000000) only [go_sem, Nat.reduceAdd, Nat.reduceSub, Nat.reduceMul, Nat.reduceDiv, Nat.reduceMod, Nat.reduceLT, Nat.reduceLeDiff, Nat.reduceEqDiff, Nat.reduceBEq, Nat.reduceBNe, Nat.reduceGT, Int.reduceAdd, Int.reduceSub, Int.reduceMul, Int.reduceNeg, Int.reduceLT, Int.reduceLE, Int.reduceEq, Int.reduceNe, Int.reduceBEq, Int.reduceBNe, Int.reduceToNat, Int.reduceGT, Int.reduceGE, ↓reduceIte, decide_true, decide_false, eq_self, Nat.mul_one, Nat.zero_mul, Nat.one_mul, Int.le_refl, Nat.le_refl, Int.cast_ofNat_Int, dfH]
                    · simp (decide := true) (maxSteps := 4000000) only [go_sem, Nat.reduceAdd, Nat.reduceSub, Nat.reduceMul, Nat.reduceDiv, Nat.reduceMod, Nat.reduceLT, Nat.reduceLeDiff, Nat.reduceEqDiff, Nat.reduceBEq, Nat.reduceBNe, Nat.reduceGT, Int.reduceAdd, Int.reduceSub, Int.reduceMul, Int.reduceNeg, Int.reduceLT, Int.reduceLE, Int.reduceEq, Int.reduceNe, Int.reduceBEq, Int.reduceBNe, Int.reduceToNat, Int.reduceGT, Int.reduceGE, ↓reduceIte, decide_true, decide_false, eq_self, Nat.mul_one, Nat.zero_mul, Nat.one_mul, Int.le_refl, Nat.le_refl, Int.cast_ofNat_Int]
                    · intro x hx; rw [hpv] at hx; cases hx
                    · rw [hpv] at hx; simp at hx
                    · simp (decide := true) (maxSteps := 4000000) only [go_sem, Nat.reduceAdd, Nat.reduceSub, Nat.reduceMul, Nat.reduceDiv, Nat.reduceMod, Nat.reduceLT, Nat.reduceLeDiff, Nat.reduceEqDiff, Nat.reduceBEq, Nat.reduceBNe, Nat.reduceGT, Int.reduceAdd, Int.reduceSub, Int.reduceMul, Int.reduceNeg, Int.reduceLT, Int.reduceLE, Int.reduceEq, Int.reduceNe, Int.reduceBEq, Int.reduceBNe, Int.reduceToNat, Int.reduceGT, Int.reduceGE, ↓reduceIte, decide_true, decide_false, eq_self, Nat.mul_one, Nat.zero_mul, Nat.one_mul, Int.le_refl, Nat.le_refl, Int.cast_ofNat_Int, dfH]
                      refine hI2 _ ⟨2, by omega, fun _ => i1 (by omega), fun _ => by rw [hM]; exact hdn⟩ (by simp only; omega) ?_
                      simp (decide := true) (maxSteps := 4000000) only [go_sem, Nat.reduceAdd, Nat.reduceSub, Nat.reduceMul, Nat.reduceDiv, Nat.reduceMod, Nat.reduceLT, Nat.reduceLeDiff, Nat.reduceEqDiff, Nat.reduceBEq, Nat.reduceBNe, Nat.reduceGT, Int.reduceAdd, Int.reduceSub, Int.reduceMul, Int.reduceNeg, Int.reduceLT, Int.reduceLE, Int.reduceEq, Int.reduceNe, Int.reduceBEq, Int.reduceBNe, Int.reduceToNat, Int.reduceGT, Int.reduceGE, ↓reduceIte, decide_true, decide_false, eq_self, Nat.mul_one, Nat.zero_mul, Nat.one_mul, Int.le_refl, Nat.le_refl, Int.cast_ofNat_Int, hM]
                  | cons pl pls =>
                    have hpv : planV t l M = [pl.tv] :: pls.map fun p => [p.tv] := by unfold planV; rw [hpl]; rfl
                    have hI := iPlans1_c f h1 hmb.1 hmb.2
                    rw [hpv] at hI
                    cases htr : trainP st (t * ((i : Int) + 1)) M with
                    | none =>
                      have hdn : diff1 t l st n ((i : Int) + 1) M = none := by unfold diff1; rw [if_neg (by rw [hmB]; simp), hpl]; simp only [htr]
                      refine pwpC_range1 rfl 61 [] [.cptr [.int .i64 t, .sl (ints l) l.length f], .cptr [.int .i64 M]] [pl.tv] (pls.map fun p => [p.tv]) (.exit 4) rfl
                        [(50, .t (.fn 61 [] [.cptr [.int .i64 t, .sl (ints l) l.length f], .cptr [.int .i64 M]])), (3, .ptr 0 0), (4, .ptr 1 0), (5, .ptr 2 0), (6, .ptr 3 0), (7, .ptr 4 0), (8, .ptr 5 0), (9, .t (.int .i64 0)), (10, .t (.int .i64 i)), (11, .ptr 6 0), (13, .ptr 7 0), (30, .t (.int .i64 i)), (41, .t (.agg [.int .i64 (n - ((i : Int) + 1)), .int .i64 (M)])), (42, .t (.int .i64 1))]
                        (dfH t l f st fs n i M 0 0) (dfH t l f st fs n i M 0 0) 8 ?_ (by rfl) (by rfl) ?_ hI ?_ (by simp [dfH]) (by simp [dfH]) rfl ?_ ?_
                      · simp (decide := true) (maxSteps := 4000000) only [go_sem, Nat.reduceAdd, Nat.reduceSub, Nat.reduceMul, Nat.reduceDiv, Nat.reduceMod, Nat.reduceLT, Nat.reduceLeDiff, Nat.reduceEqDiff, Nat.reduceBEq, Nat.reduceBNe, Nat.reduceGT, Int.reduceAdd, Int.reduceSub, Int.reduceMul, Int.reduceNeg, Int.reduceLT, Int.reduceLE, Int.reduceEq, Int.reduceNe, Int.reduceBEq, Int.reduceBNe, Int.reduceToNat, Int.reduceGT, Int.reduceGE, ↓reduceIte, decide_true, decide_false, eq_self, Nat.mul_one, Nat.zero_mul, Nat.one_mul, Int.le_refl, Nat.le_refl, Int.cast_ofNat_Int, dfH]
                      · simp (decide := true) (maxSteps := 4000000) only [go_sem, Nat.reduceAdd, Nat.reduceSub, Nat.reduceMul, Nat.reduceDiv, Nat.reduceMod, Nat.reduceLT, Nat.reduceLeDiff, Nat.reduceEqDiff, Nat.reduceBEq, Nat.reduceBNe, Nat.reduceGT, Int.reduceAdd, Int.reduceSub, Int.reduceMul, Int.reduceNeg, Int.reduceLT, Int.reduceLE, Int.reduceEq, Int.reduceNe, Int.reduceBEq, Int.reduceBNe, Int.reduceToNat, Int.reduceGT, Int.reduceGE, ↓reduceIte, decide_true, decide_false, eq_self, Nat.mul_one, Nat.zero_mul, Nat.one_mul, Int.le_refl, Nat.le_refl, Int.cast_ofNat_Int]
                      · intro x hx
                        rcases List.mem_cons.1 hx with rfl | hx
                        · rfl
                        · obtain ⟨p', _, rfl⟩ := List.mem_map.1 hx; rfl
                      · simp (decide := true) (maxSteps := 4000000) only [go_sem, Nat.reduceAdd, Nat.reduceSub, Nat.reduceMul, Nat.reduceDiv, Nat.reduceMod, Nat.reduceLT, Nat.reduceLeDiff, Nat.reduceEqDiff, Nat.reduceBEq, Nat.reduceBNe, Nat.reduceGT, Int.reduceAdd, Int.reduceSub, Int.reduceMul, Int.reduceNeg, Int.reduceLT, Int.reduceLE, Int.reduceEq, Int.reduceNe, Int.reduceBEq, Int.reduceBNe, Int.reduceToNat, Int.reduceGT, Int.reduceGE, ↓reduceIte, decide_true, decide_false, eq_self, Nat.mul_one, Nat.zero_mul, Nat.one_mul, Int.le_refl, Nat.le_refl, Int.cast_ofNat_Int, dfH, Pl.tv, Pl.cs, wta, hstk, unI_eq, hpT, hmT, htr, Option.getD_none, noTn, Tn.tv, Tn.cs]
                      · simp (decide := true) (maxSteps := 4000000) only [go_sem, Nat.reduceAdd, Nat.reduceSub, Nat.reduceMul, Nat.reduceDiv, Nat.reduceMod, Nat.reduceLT, Nat.reduceLeDiff, Nat.reduceEqDiff, Nat.reduceBEq, Nat.reduceBNe, Nat.reduceGT, Int.reduceAdd, Int.reduceSub, Int.reduceMul, Int.reduceNeg, Int.reduceLT, Int.reduceLE, Int.reduceEq, Int.reduceNe, Int.reduceBEq, Int.reduceBNe, Int.reduceToNat, Int.reduceGT, Int.reduceGE, ↓reduceIte, decide_true, decide_false, eq_self, Nat.mul_one, Nat.zero_mul, Nat.one_mul, Int.le_refl, Nat.le_refl, Int.cast_ofNat_Int, dfH]
                        refine hI2 _ ⟨2, by omega, fun _ => i1 (by omega), fun _ => by rw [hM]; exact hdn⟩ (by simp only; omega) ?_
                        simp (decide := true) (maxSteps := 4000000) only [go_sem, Nat.reduceAdd, Nat.reduceSub, Nat.reduceMul, Nat.reduceDiv, Nat.reduceMod, Nat.reduceLT, Nat.reduceLeDiff, Nat.reduceEqDiff, Nat.reduceBEq, Nat.reduceBNe, Nat.reduceGT, Int.reduceAdd, Int.reduceSub, Int.reduceMul, Int.reduceNeg, Int.reduceLT, Int.reduceLE, Int.reduceEq, Int.reduceNe, Int.reduceBEq, Int.reduceBNe, Int.reduceToNat, Int.reduceGT, Int.reduceGE, ↓reduceIte, decide_true, decide_false, eq_self, Nat.mul_one, Nat.zero_mul, Nat.one_mul, Int.le_refl, Nat.le_refl, Int.cast_ofNat_Int, hM]
                    | some tr =>
                      have hdn : diff1 t l st n ((i : Int) + 1) M = some ⟨M, pl, tr, decide (M > n)⟩ := by unfold diff1; rw [if_neg (by rw [hmB]; simp), hpl]; simp only [htr]
                      have hres : diffP t l st n = some ⟨M, pl, tr, decide (M > n)⟩ := fsTo_hit hno (show i < 20 by omega) (by show diff2 t l st n ((i : Int) + 1) = _; unfold diff2; rw [i1 (by omega), hM]; exact hdn)
                      have hta : (tr.a == -1) = false := beq_int_f (by rcases train_some htr with ⟨_, _, _, _, _, _, e⟩ | ⟨_, _, _, _, _, _, _, _, e⟩ <;> rw [e] <;> simp only <;> omega)
                      refine pwpC_range1 rfl 61 [] [.cptr [.int .i64 t, .sl (ints l) l.length f], .cptr [.int .i64 M]] [pl.tv] (pls.map fun p => [p.tv]) .ret rfl
                        [(50, .t (.fn 61 [] [.cptr [.int .i64 t, .sl (ints l) l.length f], .cptr [.int .i64 M]])), (3, .ptr 0 0), (4, .ptr 1 0), (5, .ptr 2 0), (6, .ptr 3 0), (7, .ptr 4 0), (8, .ptr 5 0), (9, .t (.int .i64 0)), (10, .t (.int .i64 i)), (11, .ptr 6 0), (13, .ptr 7 0), (30, .t (.int .i64 i)), (41, .t (.agg [.int .i64 (n - ((i : Int) + 1)), .int .i64 (M)])), (42, .t (.int .i64 1))]
                        (dfH t l f st fs n i M 0 0) (dfH2 t l f st fs n i M ⟨M, pl, tr, decide (M > n)⟩) 8 ?_ (by rfl) (by rfl) ?_ hI ?_ (by simp [dfH]) (by simp [dfH2]) rfl ?_ ?_
                      · simp (decide := true) (maxSteps := 4000000) only [go_sem, Nat.reduceAdd, Nat.reduceSub, Nat.reduceMul, Nat.reduceDiv, Nat.reduceMod, Nat.reduceLT, Nat.reduceLeDiff, Nat.reduceEqDiff, Nat.reduceBEq, Nat.reduceBNe, Nat.reduceGT, Int.reduceAdd, Int.reduceSub, Int.reduceMul, Int.reduceNeg, Int.reduceLT, Int.reduceLE, Int.reduceEq, Int.reduceNe, Int.reduceBEq, Int.reduceBNe, Int.reduceToNat, Int.reduceGT, Int.reduceGE, ↓reduceIte, decide_true, decide_false, eq_self, Nat.mul_one, Nat.zero_mul, Nat.one_mul, Int.le_refl, Nat.le_refl, Int.cast_ofNat_Int, dfH]
                      · simp (decide := true) (maxSteps := 4000000) only [go_sem, Nat.reduceAdd, Nat.reduceSub, Nat.reduceMul, Nat.reduceDiv, Nat.reduceMod, Nat.reduceLT, Nat.reduceLeDiff, Nat.reduceEqDiff, Nat.reduceBEq, Nat.reduceBNe, Nat.reduceGT, Int.reduceAdd, Int.reduceSub, Int.reduceMul, Int.reduceNeg, Int.reduceLT, Int.reduceLE, Int.reduceEq, Int.reduceNe, Int.reduceBEq, Int.reduceBNe, Int.reduceToNat, Int.reduceGT, Int.reduceGE, ↓reduceIte, decide_true, decide_false, eq_self, Nat.mul_one, Nat.zero_mul, Nat.one_mul, Int.le_refl, Nat.le_refl, Int.cast_ofNat_Int]
                      · intro x hx
                        rcases List.mem_cons.1 hx with rfl | hx
                        · rfl
                        · obtain ⟨p', _, rfl⟩ := List.mem_map.1 hx; rfl
                      · simp (decide := true) (maxSteps := 4000000) only [go_sem, Nat.reduceAdd, Nat.reduceSub, Nat.reduceMul, Nat.reduceDiv, Nat.reduceMod, Nat.reduceLT, Nat.reduceLeDiff, Nat.reduceEqDiff, Nat.reduceBEq, Nat.reduceBNe, Nat.reduceGT, Int.reduceAdd, Int.reduceSub, Int.reduceMul, Int.reduceNeg, Int.reduceLT, Int.reduceLE, Int.reduceEq, Int.reduceNe, Int.reduceBEq, Int.reduceBNe, Int.reduceToNat, Int.reduceGT, Int.reduceGE, ↓reduceIte, decide_true, decide_false, eq_self, Nat.mul_one, Nat.zero_mul, Nat.one_mul, Int.le_refl, Nat.le_refl, Int.cast_ofNat_Int, dfH, dfH2, Pl.tv, Pl.cs, wta, hstk, unI_eq, hpT, hmT, htr, Option.getD_some, Tn.tv, Tn.cs, hta, Bool.false_and]
                        first | done | rfl
                      · simp (decide := true) (maxSteps := 4000000) only [go_sem, Nat.reduceAdd, Nat.reduceSub, Nat.reduceMul, Nat.reduceDiv, Nat.reduceMod, Nat.reduceLT, Nat.reduceLeDiff, Nat.reduceEqDiff, Nat.reduceBEq, Nat.reduceBNe, Nat.reduceGT, Int.reduceAdd, Int.reduceSub, Int.reduceMul, Int.reduceNeg, Int.reduceLT, Int.reduceLE, Int.reduceEq, Int.reduceNe, Int.reduceBEq, Int.reduceBNe, Int.reduceToNat, Int.reduceGT, Int.reduceGE, ↓reduceIte, decide_true, decide_false, eq_self, Nat.mul_one, Nat.zero_mul, Nat.one_mul, Int.le_refl, Nat.le_refl, Int.cast_ofNat_Int, dfH2]
                        try (refine hQ2 _ _ ?_)
                        try simp (decide := true) (maxSteps := 4000000) only [go_sem, Nat.reduceAdd, Nat.reduceSub, Nat.reduceMul, Nat.reduceDiv, Nat.reduceMod, Nat.reduceLT, Nat.reduceLeDiff, Nat.reduceEqDiff, Nat.reduceBEq, Nat.reduceBNe, Nat.reduceGT, Int.reduceAdd, Int.reduceSub, Int.reduceMul, Int.reduceNeg, Int.reduceLT, Int.reduceLE, Int.reduceEq, Int.reduceNe, Int.reduceBEq, Int.reduceBNe, Int.reduceToNat, Int.reduceGT, Int.reduceGE, ↓reduceIte, decide_true, decide_false, eq_self, Nat.mul_one, Nat.zero_mul, Nat.one_mul, Int.le_refl, Nat.le_refl, Int.cast_ofNat_Int]
                        try (refine hQ1 _ _ ?_)
                        try simp (decide := true) (maxSteps := 4000000) only [go_sem, Nat.reduceAdd, Nat.reduceSub, Nat.reduceMul, Nat.reduceDiv, Nat.reduceMod, Nat.reduceLT, Nat.reduceLeDiff, Nat.reduceEqDiff, Nat.reduceBEq, Nat.reduceBNe, Nat.reduceGT, Int.reduceAdd, Int.reduceSub, Int.reduceMul, Int.reduceNeg, Int.reduceLT, Int.reduceLE, Int.reduceEq, Int.reduceNe, Int.reduceBEq, Int.reduceBNe, Int.reduceToNat, Int.reduceGT, Int.reduceGE, ↓reduceIte, decide_true, decide_false, eq_self, Nat.mul_one, Nat.zero_mul, Nat.one_mul, Int.le_refl, Nat.le_refl, Int.cast_ofNat_Int]
                        rw [hres]
                        first | done | exact ⟨rfl, rfl⟩ | rfl
              · simp (decide := true) (maxSteps := 4000000) only [go_sem, Nat.reduceAdd, Nat.reduceSub, Nat.reduceMul, Nat.reduceDiv, Nat.reduceMod, Nat.reduceLT, Nat.reduceLeDiff, Nat.reduceEqDiff, Nat.reduceBEq, Nat.reduceBNe, Nat.reduceGT, Int.reduceAdd, Int.reduceSub, Int.reduceMul, Int.reduceNeg, Int.reduceLT, Int.reduceLE, Int.reduceEq, Int.reduceNe, Int.reduceBEq, Int.reduceBNe, Int.reduceToNat, Int.reduceGT, Int.reduceGE, ↓reduceIte, decide_true, decide_false, eq_self, Nat.mul_one, Nat.zero_mul, Nat.one_mul, Int.le_refl, Nat.le_refl, Int.cast_ofNat_Int]
                refine hQ2 _ _ ?_
                simp (decide := true) (maxSteps := 4000000) only [go_sem, Nat.reduceAdd, Nat.reduceSub, Nat.reduceMul, Nat.reduceDiv, Nat.reduceMod, Nat.reduceLT, Nat.reduceLeDiff, Nat.reduceEqDiff, Nat.reduceBEq, Nat.reduceBNe, Nat.reduceGT, Int.reduceAdd, Int.reduceSub, Int.reduceMul, Int.reduceNeg, Int.reduceLT, Int.reduceLE, Int.reduceEq, Int.reduceNe, Int.reduceBEq, Int.reduceBNe, Int.reduceToNat, Int.reduceGT, Int.reduceGE, ↓reduceIte, decide_true, decide_false, eq_self, Nat.mul_one, Nat.zero_mul, Nat.one_mul, Int.le_refl, Nat.le_refl, Int.cast_ofNat_Int]
                refine hI1 _ ⟨i + 1, by omega, by rw [fsTo_succ, hno]; show diff2 t l st n ((i : Int) + 1) = none; unfold diff2; rw [i1 (by omega)]; exact i2 (by omega)⟩ (by simp only; omega) ?_
                simp (decide := true) (maxSteps := 4000000) only [go_sem, Nat.reduceAdd, Nat.reduceSub, Nat.reduceMul, Nat.reduceDiv, Nat.reduceMod, Nat.reduceLT, Nat.reduceLeDiff, Nat.reduceEqDiff, Nat.reduceBEq, Nat.reduceBNe, Nat.reduceGT, Int.reduceAdd, Int.reduceSub, Int.reduceMul, Int.reduceNeg, Int.reduceLT, Int.reduceLE, Int.reduceEq, Int.reduceNe, Int.reduceBEq, Int.reduceBNe, Int.reduceToNat, Int.reduceGT, Int.reduceGE, ↓reduceIte, decide_true, decide_false, eq_self, Nat.mul_one, Nat.zero_mul, Nat.one_mul, Int.le_refl, Nat.le_refl, Int.cast_ofNat_Int, hi3]
          · have hie : i = 20 := by omega
            subst hie
            have hres : diffP t l st n = none := hno
            simp (decide := true) (maxSteps := 4000000) only [go_sem, Nat.reduceAdd, Nat.reduceSub, Nat.reduceMul, Nat.reduceDiv, Nat.reduceMod, Nat.reduceLT, Nat.reduceLeDiff, Nat.reduceEqDiff, Nat.reduceBEq, Nat.reduceBNe, Nat.reduceGT, Int.reduceAdd, Int.reduceSub, Int.reduceMul, Int.reduceNeg, Int.reduceLT, Int.reduceLE, Int.reduceEq, Int.reduceNe, Int.reduceBEq, Int.reduceBNe, Int.reduceToNat, Int.reduceGT, Int.reduceGE, ↓reduceIte, decide_true, decide_false, eq_self, Nat.mul_one, Nat.zero_mul, Nat.one_mul, Int.le_refl, Nat.le_refl, Int.cast_ofNat_Int]
            refine hQ1 _ _ ?_
            simp (decide := true) (maxSteps := 4000000) only [go_sem, Nat.reduceAdd, Nat.reduceSub, Nat.reduceMul, Nat.reduceDiv, Nat.reduceMod, Nat.reduceLT, Nat.reduceLeDiff, Nat.reduceEqDiff, Nat.reduceBEq, Nat.reduceBNe, Nat.reduceGT, Int.reduceAdd, Int.reduceSub, Int.reduceMul, Int.reduceNeg, Int.reduceLT, Int.reduceLE, Int.reduceEq, Int.reduceNe, Int.reduceBEq, Int.reduceBNe, Int.reduceToNat, Int.reduceGT, Int.reduceGE, ↓reduceIte, decide_true, decide_false, eq_self, Nat.mul_one, Nat.zero_mul, Nat.one_mul, Int.le_refl, Nat.le_refl, Int.cast_ofNat_Int, hres, Df.tv, Df.cs, Pl.cs, Tn.cs]
end Go.Proofs.YtnoahnbjdapieaaDoor

/- Part Ig. -/
namespace Go.Oc
open Go Go.Pm
set_option maxRecDepth 100000
theorem circOk_snoc : ∀ (a : Int) (l : List Int) (x : Int), circOk a (l ++ [x]) = (circOk a l && inB x ((l.getLast?.getD a) + 1) 200)
  | a, [], x => by simp [circOk]
  | a, [y], x => by simp [circOk, Bool.and_assoc]
  | a, y :: z :: l, x => by
    rw [List.cons_append, circOk, circOk_snoc y (z :: l) x, show circOk a (y :: z :: l) = (inB y (a + 1) 200 && circOk y (z :: l)) from rfl, Bool.and_assoc, List.getLast?_cons_cons]
    rfl
theorem last_row {l : List Int} {k : Nat} {x : Int} (h : l[k]? = some x) (h0 : ¬ k = 0) : ∃ j : Nat, k = j + 1 ∧ l[j]? = some (lastTo l k) := by
  obtain ⟨j, rfl⟩ : ∃ j, k = j + 1 := ⟨k - 1, by omega⟩
  have hk := (List.getElem?_eq_some_iff.1 h).1
  have hx : l[j]? = some l[j] := List.getElem?_eq_getElem (by omega)
  refine ⟨j, rfl, ?_⟩
  show _ = some (nthI l j)
  rw [nthI_at hx, hx]
theorem last_at {l : List Int} {k : Nat} {x : Int} (h : l[k]? = some x) : (l.take k).getLast?.getD 1 = lastTo l k := by
  cases k with
  | zero => rfl
  | succ k =>
    have hk := (List.getElem?_eq_some_iff.1 h).1
    have hx : l[k]? = some l[k] := List.getElem?_eq_getElem (by omega)
    rw [take_snoc hx, List.getLast?_concat]
    show l[k] = nthI l k
    rw [nthI_at hx]
/-- So far all is well, as the specification looks. -/
def rchk (t : Int) (l : List Int) (k : Nat) : Bool := inB t 1 400 && inB l.length 1 12 && circOk 1 (l.take k)
theorem rchk_succ {t : Int} {l : List Int} {k : Nat} {x : Int} (h : l[k]? = some x) (hk : rchk t l k = true) : rchk t l (k + 1) = (inB x 2 200 && ((k : Int) == 0 || decide (x > lastTo l k))) := by
  unfold rchk at hk ⊢
  simp only [Bool.and_eq_true] at hk
  rw [take_snoc h, circOk_snoc, last_at h, hk.1.1, hk.1.2, hk.2]
  simp only [Bool.true_and]
  cases k with
  | zero => simp [lastTo]
  | succ k =>
    have hl := (List.getElem?_eq_some_iff.1 h).1
    have hx : l[k]? = some l[k] := List.getElem?_eq_getElem (by omega)
    have hm : l[k] ∈ l.take (k + 1) := by rw [take_snoc hx]; exact List.mem_append_right _ (List.mem_singleton.2 rfl)
    have hp := circ_mem hk.2 _ hm
    have e : lastTo l (k + 1) = l[k] := nthI_at hx
    rw [e]
    rw [Bool.eq_iff_iff]
    simp [inB]
    omega
theorem rchk_all (t : Int) (l : List Int) : rchk t l l.length = headOk t l := by unfold rchk headOk; rw [List.take_length, Bool.and_assoc]
theorem circ_take : ∀ {a : Int} {l : List Int} (k : Nat), circOk a l = true → circOk a (l.take k) = true
  | a, [], k, _ => by simp [circOk]
  | a, x :: l, 0, _ => rfl
  | a, x :: l, k + 1, h => by
    simp only [circOk, Bool.and_eq_true] at h
    simp only [List.take_succ_cons, circOk, Bool.and_eq_true]
    exact ⟨h.1, circ_take k h.2⟩
theorem rchk_false {t : Int} {l : List Int} {k : Nat} (h : rchk t l k = false) : headOk t l = false := by
  rw [Bool.eq_false_iff] at h ⊢
  intro hh
  apply h
  have := headOk_iff.1 hh
  unfold rchk
  simp only [Bool.and_eq_true, inB_iff]
  exact ⟨⟨this.1, by omega, by omega⟩, circ_take k this.2.2⟩
end Go.Oc
namespace Go.Proofs.YtnoahnbjdapieaaDoor
open Go.RowKit Go.Pm Go.Oc
set_option maxRecDepth 100000
set_option linter.unusedVariables false
set_option maxHeartbeats 4000000

theorem rCheck_c (t : Int) {l : List Int} {s : TV} (hl : IsRow ic s l) (hll : l.length ≤ 17592186044415) : PCalls Tryd.prog 18 [.agg [.int .i64 t, s]] (.int .i64 (if headOk t l then 0 else 10)) := by
  have h0 : rchk t l 0 = (inB t 1 400 && inB l.length 1 12) := by unfold rchk; simp [circOk]
  refine pcalls_by Tryd.mixes spB3_ok (fn := Tryd.f18) Tryd.func18 rfl (by kernel_rfl) (by show 1 ≤ _; decide) ?_
  rcases hl with ⟨rfl, rfl⟩ | ⟨f, rfl⟩
  · have e : headOk t [] = false := by simp [headOk, inB]
    have e2 : inB 0 1 12 = false := rfl
    cases h1 : inB t 1 400 <;> simp (decide := true) (maxSteps := 4000000) only [go_sem, Nat.reduceAdd, Nat.reduceSub, Nat.reduceMul, Nat.reduceDiv, Nat.reduceMod, Nat.reduceLT, Nat.reduceLeDiff, Nat.reduceEqDiff, Nat.reduceBEq, Nat.reduceBNe, Nat.reduceGT, Int.reduceAdd, Int.reduceSub, Int.reduceMul, Int.reduceNeg, Int.reduceLT, Int.reduceLE, Int.reduceEq, Int.reduceNe, Int.reduceBEq, Int.reduceBNe, Int.reduceToNat, Int.reduceGT, Int.reduceGE, ↓reduceIte, decide_true, decide_false, eq_self, Nat.mul_one, Nat.zero_mul, Nat.one_mul, Int.le_refl, Nat.le_refl, Int.cast_ofNat_Int, Tryd.f18, h1, e2]
    all_goals refine pwpC_loopU (A := Unit) [1, 2] (fun _ => [(4, .t (.int .i64 0)), (3, .t (.bool false))]) (fun _ => []) (fun _ => 0) () (by decide) (fun _ => by rfl) ?_ fun Q1 hQ1 _ I1 hI1 => ?_
    all_goals first
      | (simp (decide := true) (maxSteps := 4000000) only [go_sem, Nat.reduceAdd, Nat.reduceSub, Nat.reduceMul, Nat.reduceDiv, Nat.reduceMod, Nat.reduceLT, Nat.reduceLeDiff, Nat.reduceEqDiff, Nat.reduceBEq, Nat.reduceBNe, Nat.reduceGT, Int.reduceAdd, Int.reduceSub, Int.reduceMul, Int.reduceNeg, Int.reduceLT, Int.reduceLE, Int.reduceEq, Int.reduceNe, Int.reduceBEq, Int.reduceBNe, Int.reduceToNat, Int.reduceGT, Int.reduceGE, ↓reduceIte, decide_true, decide_false, eq_self, Nat.mul_one, Nat.zero_mul, Nat.one_mul, Int.le_refl, Nat.le_refl, Int.cast_ofNat_Int]; done)
      | (simp (decide := true) (maxSteps := 4000000) only [go_sem, Nat.reduceAdd, Nat.reduceSub, Nat.reduceMul, Nat.reduceDiv, Nat.reduceMod, Nat.reduceLT, Nat.reduceLeDiff, Nat.reduceEqDiff, Nat.reduceBEq, Nat.reduceBNe, Nat.reduceGT, Int.reduceAdd, Int.reduceSub, Int.reduceMul, Int.reduceNeg, Int.reduceLT, Int.reduceLE, Int.reduceEq, Int.reduceNe, Int.reduceBEq, Int.reduceBNe, Int.reduceToNat, Int.reduceGT, Int.reduceGE, ↓reduceIte, decide_true, decide_false, eq_self, Nat.mul_one, Nat.zero_mul, Nat.one_mul, Int.le_refl, Nat.le_refl, Int.cast_ofNat_Int]
         refine hQ1 _ _ ?_
         simp (decide := true) (maxSteps := 4000000) only [go_sem, Nat.reduceAdd, Nat.reduceSub, Nat.reduceMul, Nat.reduceDiv, Nat.reduceMod, Nat.reduceLT, Nat.reduceLeDiff, Nat.reduceEqDiff, Nat.reduceBEq, Nat.reduceBNe, Nat.reduceGT, Int.reduceAdd, Int.reduceSub, Int.reduceMul, Int.reduceNeg, Int.reduceLT, Int.reduceLE, Int.reduceEq, Int.reduceNe, Int.reduceBEq, Int.reduceBNe, Int.reduceToNat, Int.reduceGT, Int.reduceGE, ↓reduceIte, decide_true, decide_false, eq_self, Nat.mul_one, Nat.zero_mul, Nat.one_mul, Int.le_refl, Nat.le_refl, Int.cast_ofNat_Int, e])
  · rw [ic_ints]
    cases h1 : inB t 1 400 <;> cases h2 : inB (l.length : Int) 1 12 <;> rw [h1, h2] at h0 <;> simp (decide := true) (maxSteps := 4000000) only [go_sem, Nat.reduceAdd, Nat.reduceSub, Nat.reduceMul, Nat.reduceDiv, Nat.reduceMod, Nat.reduceLT, Nat.reduceLeDiff, Nat.reduceEqDiff, Nat.reduceBEq, Nat.reduceBNe, Nat.reduceGT, Int.reduceAdd, Int.reduceSub, Int.reduceMul, Int.reduceNeg, Int.reduceLT, Int.reduceLE, Int.reduceEq, Int.reduceNe, Int.reduceBEq, Int.reduceBNe, Int.reduceToNat, Int.reduceGT, Int.reduceGE, ↓reduceIte, decide_true, decide_false, eq_self, Nat.mul_one, Nat.zero_mul, Nat.one_mul, Int.le_refl, Nat.le_refl, Int.cast_ofNat_Int, Tryd.f18, h1, h2]
    all_goals
      refine pwpC_loopU (A := { k : Nat // k ≤ l.length }) [1, 2] (fun k => [(4, .t (.int .i64 k.1)), (3, .t (.bool (rchk t l k.1)))]) (fun _ => []) (fun k => l.length - k.1) ⟨0, by omega⟩ (by decide) (fun _ => by rfl) ?_ fun Q1 hQ1 ⟨k, hk⟩ I1 hI1 => ?_
      · simp (decide := true) (maxSteps := 4000000) only [go_sem, Nat.reduceAdd, Nat.reduceSub, Nat.reduceMul, Nat.reduceDiv, Nat.reduceMod, Nat.reduceLT, Nat.reduceLeDiff, Nat.reduceEqDiff, Nat.reduceBEq, Nat.reduceBNe, Nat.reduceGT, Int.reduceAdd, Int.reduceSub, Int.reduceMul, Int.reduceNeg, Int.reduceLT, Int.reduceLE, Int.reduceEq, Int.reduceNe, Int.reduceBEq, Int.reduceBNe, Int.reduceToNat, Int.reduceGT, Int.reduceGE, ↓reduceIte, decide_true, decide_false, eq_self, Nat.mul_one, Nat.zero_mul, Nat.one_mul, Int.le_refl, Nat.le_refl, Int.cast_ofNat_Int, h0]
      · cases hok : rchk t l k with
        | false =>
          have e := rchk_false hok
          simp (decide := true) (maxSteps := 4000000) only [go_sem, Nat.reduceAdd, Nat.reduceSub, Nat.reduceMul, Nat.reduceDiv, Nat.reduceMod, Nat.reduceLT, Nat.reduceLeDiff, Nat.reduceEqDiff, Nat.reduceBEq, Nat.reduceBNe, Nat.reduceGT, Int.reduceAdd, Int.reduceSub, Int.reduceMul, Int.reduceNeg, Int.reduceLT, Int.reduceLE, Int.reduceEq, Int.reduceNe, Int.reduceBEq, Int.reduceBNe, Int.reduceToNat, Int.reduceGT, Int.reduceGE, ↓reduceIte, decide_true, decide_false, eq_self, Nat.mul_one, Nat.zero_mul, Nat.one_mul, Int.le_refl, Nat.le_refl, Int.cast_ofNat_Int, hok]
          refine hQ1 _ _ ?_
          simp (decide := true) (maxSteps := 4000000) only [go_sem, Nat.reduceAdd, Nat.reduceSub, Nat.reduceMul, Nat.reduceDiv, Nat.reduceMod, Nat.reduceLT, Nat.reduceLeDiff, Nat.reduceEqDiff, Nat.reduceBEq, Nat.reduceBNe, Nat.reduceGT, Int.reduceAdd, Int.reduceSub, Int.reduceMul, Int.reduceNeg, Int.reduceLT, Int.reduceLE, Int.reduceEq, Int.reduceNe, Int.reduceBEq, Int.reduceBNe, Int.reduceToNat, Int.reduceGT, Int.reduceGE, ↓reduceIte, decide_true, decide_false, eq_self, Nat.mul_one, Nat.zero_mul, Nat.one_mul, Int.le_refl, Nat.le_refl, Int.cast_ofNat_Int, e]
        | true =>
          by_cases hlt : (k : Int) < l.length
          · obtain ⟨x, hx⟩ := get_lt hlt
            have hd := ints_at hx
            rw [Nat.mul_one] at hd
            have hc1 : IntKind.i64.wrap (k + 1) = ((k + 1 : Nat) : Int) := by rw [wrap_in (by omega) (by omega)]; omega
            have hs := rchk_succ hx hok
            by_cases hk0 : k = 0
            · have e1 : ((k : Int) == 0) = true := beq_int_t (by omega)
              have wk : IntKind.i64.wrap ((k : Int) - 1) = -1 := by rw [hk0]; rfl
              rw [e1, Bool.true_or, Bool.and_true] at hs
              cases h5 : inB x 2 200 <;> rw [h5] at hs <;> simp (decide := true) (maxSteps := 4000000) only [go_sem, Nat.reduceAdd, Nat.reduceSub, Nat.reduceMul, Nat.reduceDiv, Nat.reduceMod, Nat.reduceLT, Nat.reduceLeDiff, Nat.reduceEqDiff, Nat.reduceBEq, Nat.reduceBNe, Nat.reduceGT, Int.reduceAdd, Int.reduceSub, Int.reduceMul, Int.reduceNeg, Int.reduceLT, Int.reduceLE, Int.reduceEq, Int.reduceNe, Int.reduceBEq, Int.reduceBNe, Int.reduceToNat, Int.reduceGT, Int.reduceGE, ↓reduceIte, decide_true, decide_false, eq_self, Nat.mul_one, Nat.zero_mul, Nat.one_mul, Int.le_refl, Nat.le_refl, Int.cast_ofNat_Int, hok, hlt, hd, h5, e1, wk]
              all_goals refine hI1 _ ⟨k + 1, by omega⟩ (by simp only; omega) ?_
              all_goals simp (decide := true) (maxSteps := 4000000) only [go_sem, Nat.reduceAdd, Nat.reduceSub, Nat.reduceMul, Nat.reduceDiv, Nat.reduceMod, Nat.reduceLT, Nat.reduceLeDiff, Nat.reduceEqDiff, Nat.reduceBEq, Nat.reduceBNe, Nat.reduceGT, Int.reduceAdd, Int.reduceSub, Int.reduceMul, Int.reduceNeg, Int.reduceLT, Int.reduceLE, Int.reduceEq, Int.reduceNe, Int.reduceBEq, Int.reduceBNe, Int.reduceToNat, Int.reduceGT, Int.reduceGE, ↓reduceIte, decide_true, decide_false, eq_self, Nat.mul_one, Nat.zero_mul, Nat.one_mul, Int.le_refl, Nat.le_refl, Int.cast_ofNat_Int, hc1, hs]
            · have e1 : ((k : Int) == 0) = false := beq_int_f (by omega)
              obtain ⟨j, hj, hjx⟩ := last_row hx hk0
              have hdj := ints_at hjx
              rw [Nat.mul_one] at hdj
              have wk : IntKind.i64.wrap ((k : Int) - 1) = (j : Int) := by rw [wrap_in (by omega) (by omega)]; omega
              have hlj : (j : Int) < l.length := by omega
              rw [e1, Bool.false_or] at hs
              cases h5 : inB x 2 200 <;> rw [h5] at hs <;> simp (decide := true) (maxSteps := 4000000) only [go_sem, Nat.reduceAdd, Nat.reduceSub, Nat.reduceMul, Nat.reduceDiv, Nat.reduceMod, Nat.reduceLT, Nat.reduceLeDiff, Nat.reduceEqDiff, Nat.reduceBEq, Nat.reduceBNe, Nat.reduceGT, Int.reduceAdd, Int.reduceSub, Int.reduceMul, Int.reduceNeg, Int.reduceLT, Int.reduceLE, Int.reduceEq, Int.reduceNe, Int.reduceBEq, Int.reduceBNe, Int.reduceToNat, Int.reduceGT, Int.reduceGE, ↓reduceIte, decide_true, decide_false, eq_self, Nat.mul_one, Nat.zero_mul, Nat.one_mul, Int.le_refl, Nat.le_refl, Int.cast_ofNat_Int, hok, hlt, hd, h5, e1, wk, hlj, hdj]
              all_goals refine hI1 _ ⟨k + 1, by omega⟩ (by simp only; omega) ?_
              all_goals simp (decide := true) (maxSteps := 4000000) only [go_sem, Nat.reduceAdd, Nat.reduceSub, Nat.reduceMul, Nat.reduceDiv, Nat.reduceMod, Nat.reduceLT, Nat.reduceLeDiff, Nat.reduceEqDiff, Nat.reduceBEq, Nat.reduceBNe, Nat.reduceGT, Int.reduceAdd, Int.reduceSub, Int.reduceMul, Int.reduceNeg, Int.reduceLT, Int.reduceLE, Int.reduceEq, Int.reduceNe, Int.reduceBEq, Int.reduceBNe, Int.reduceToNat, Int.reduceGT, Int.reduceGE, ↓reduceIte, decide_true, decide_false, eq_self, Nat.mul_one, Nat.zero_mul, Nat.one_mul, Int.le_refl, Nat.le_refl, Int.cast_ofNat_Int, hc1, hs]
          · have hke : k = l.length := by omega
            subst hke
            have e : headOk t l = true := by rw [← rchk_all]; exact hok
            simp (decide := true) (maxSteps := 4000000) only [go_sem, Nat.reduceAdd, Nat.reduceSub, Nat.reduceMul, Nat.reduceDiv, Nat.reduceMod, Nat.reduceLT, Nat.reduceLeDiff, Nat.reduceEqDiff, Nat.reduceBEq, Nat.reduceBNe, Nat.reduceGT, Int.reduceAdd, Int.reduceSub, Int.reduceMul, Int.reduceNeg, Int.reduceLT, Int.reduceLE, Int.reduceEq, Int.reduceNe, Int.reduceBEq, Int.reduceBNe, Int.reduceToNat, Int.reduceGT, Int.reduceGE, ↓reduceIte, decide_true, decide_false, eq_self, Nat.mul_one, Nat.zero_mul, Nat.one_mul, Int.le_refl, Nat.le_refl, Int.cast_ofNat_Int, hok, hlt]
            refine hQ1 _ _ ?_
            simp (decide := true) (maxSteps := 4000000) only [go_sem, Nat.reduceAdd, Nat.reduceSub, Nat.reduceMul, Nat.reduceDiv, Nat.reduceMod, Nat.reduceLT, Nat.reduceLeDiff, Nat.reduceEqDiff, Nat.reduceBEq, Nat.reduceBNe, Nat.reduceGT, Int.reduceAdd, Int.reduceSub, Int.reduceMul, Int.reduceNeg, Int.reduceLT, Int.reduceLE, Int.reduceEq, Int.reduceNe, Int.reduceBEq, Int.reduceBNe, Int.reduceToNat, Int.reduceGT, Int.reduceGE, ↓reduceIte, decide_true, decide_false, eq_self, Nat.mul_one, Nat.zero_mul, Nat.one_mul, Int.le_refl, Nat.le_refl, Int.cast_ofNat_Int, e]
noncomputable def rxCheck : List TV → Option TV
  | [.agg [.int .i64 t, s]] => match rowL unI s with
    | some l => if l.length ≤ 17592186044415 then some (.int .i64 (if headOk t l then 0 else 10)) else none
    | none => none
  | _ => none
theorem rxCheck_ok : ∀ xs r, rxCheck xs = some r → PCalls Tryd.prog 18 xs r := by
  intro xs r h
  unfold rxCheck at h
  split at h
  · split at h
    · rename_i l hl
      have hl := rowL_some (un := unI) rfl (@unI_some) hl
      split at h
      · rename_i hc; cases h; exact rCheck_c _ hl hc
      · cases h
    · cases h
  · cases h
attribute [go_sem] rxCheck
noncomputable def spG1 : Pm.Spec := spB3.one 18 rxCheck
@[go_sem] theorem spG1_p (f : FuncId) (xs : List TV) : spG1.p f xs = Pm.Spec.p (spB3.one 18 rxCheck) f xs := rfl
@[go_sem] theorem spG1_h (f : FuncId) (ps : List PV) (hl : List PO) : spG1.h f ps hl = Pm.Spec.h (spB3.one 18 rxCheck) f ps hl := rfl
@[go_sem] theorem spG1_fz (f : FuncId) : spG1.fz f = Pm.Spec.fz (spB3.one 18 rxCheck) f := rfl
@[go_sem] theorem spG1_fr (f : FuncId) : spG1.fr f = Pm.Spec.fr (spB3.one 18 rxCheck) f := rfl
@[go_sem] theorem spG1_mu (t : TypeId) : spG1.mu t = Pm.Spec.mu (spB3.one 18 rxCheck) t := rfl
theorem spG1_ok : SpecOk Tryd.prog spG1 := Spec.one_ok rxCheck_ok spB3_ok
theorem rPlans_c {t : Int} {l : List Int} (f : Bool) (hh : headOk t l = true) {n : Int} (hn : 1 ≤ n) (hn2 : n ≤ 100000) : PCalls Tryd.prog 44 [.agg [.int .i64 t, .sl (ints l) l.length f], .int .i64 n] (rowG Pl.cs (plansP t l n)) := by
  have hh' := headOk_iff.1 hh
  have hn0 : ¬ n = 0 := by omega
  refine pcalls_by Tryd.mixes spG1_ok (fn := Tryd.f44) Tryd.func44 rfl (by kernel_rfl) (by show 2 ≤ _; decide) ?_
  simp (decide := true) (maxSteps := 4000000) only [go_sem, Nat.reduceAdd, Nat.reduceSub, Nat.reduceMul, Nat.reduceDiv, Nat.reduceMod, Nat.reduceLT, Nat.reduceLeDiff, Nat.reduceEqDiff, Nat.reduceBEq, Nat.reduceBNe, Nat.reduceGT, Int.reduceAdd, Int.reduceSub, Int.reduceMul, Int.reduceNeg, Int.reduceLT, Int.reduceLE, Int.reduceEq, Int.reduceNe, Int.reduceBEq, Int.reduceBNe, Int.reduceToNat, Int.reduceGT, Int.reduceGE, ↓reduceIte, decide_true, decide_false, eq_self, Nat.mul_one, Nat.zero_mul, Nat.one_mul, Int.le_refl, Nat.le_refl, Int.cast_ofNat_Int, Tryd.f44]
  refine pwpC_loopU (A := { k : Nat // k ≤ l.length }) [1, 2, 4] (fun k => [(6, .t (.int .i64 k.1)), (5, .own ((plansTo t l n k.1).flatMap Pl.cs) (plansTo t l n k.1).length 1)]) (fun k => [(1, .tok (plansTo t l n k.1).length 50)]) (fun k => l.length - k.1) ⟨0, by omega⟩ (by decide) (fun _ => by rfl) ?_ fun Q1 hQ1 ⟨k, hk⟩ I1 hI1 => ?_
  · simp (decide := true) (maxSteps := 4000000) only [go_sem, Nat.reduceAdd, Nat.reduceSub, Nat.reduceMul, Nat.reduceDiv, Nat.reduceMod, Nat.reduceLT, Nat.reduceLeDiff, Nat.reduceEqDiff, Nat.reduceBEq, Nat.reduceBNe, Nat.reduceGT, Int.reduceAdd, Int.reduceSub, Int.reduceMul, Int.reduceNeg, Int.reduceLT, Int.reduceLE, Int.reduceEq, Int.reduceNe, Int.reduceBEq, Int.reduceBNe, Int.reduceToNat, Int.reduceGT, Int.reduceGE, ↓reduceIte, decide_true, decide_false, eq_self, Nat.mul_one, Nat.zero_mul, Nat.one_mul, Int.le_refl, Nat.le_refl, Int.cast_ofNat_Int, plansTo, List.range_zero, List.filterMap_nil, List.flatMap_nil, List.length_nil]
    first | done | exact ⟨⟨rfl, rfl⟩, rfl⟩ | exact ⟨rfl, rfl⟩ | rfl
  · by_cases hlt : (k : Int) < l.length
    · obtain ⟨h, hx⟩ := get_lt hlt
      have hd := ints_at hx
      rw [Nat.mul_one] at hd
      have hnth := nthI_at hx
      have hb := head_at hh hx
      have hk1 : IntKind.i64.wrap (k + 1) = ((k + 1 : Nat) : Int) := by rw [wrap_in (by omega) (by omega)]; omega
      have hb1 := mulB (a := t) (b := h) (A := 400) (B := 200) (by omega) (by omega) (by omega) (by omega)
      have w1 : IntKind.i64.wrap (t * h) = t * h := wrap_in (by omega) (by omega)
      obtain ⟨q, hq⟩ : ∃ q, t * h / n = q := ⟨_, rfl⟩
      have hq0 : 0 ≤ q := by rw [← hq]; exact Int.ediv_nonneg hb1.1 (by omega)
      have hq1 : q ≤ 80000 := by have := Int.ediv_le_self n hb1.1; omega
      have w2 : IntKind.i64.wrap ((t * h).tdiv n) = q := by rw [Int.tdiv_eq_ediv_of_nonneg hb1.1, hq]; exact wrap_in (by omega) (by omega)
      have q4 : 0 ≤ q / h := Int.ediv_nonneg hq0 (by omega)
      have q5 : q / h ≤ q := Int.ediv_le_self h hq0
      have w3 : IntKind.i64.wrap (q.tdiv h) = q / h := by rw [Int.tdiv_eq_ediv_of_nonneg hq0]; exact wrap_in (by omega) (by omega)
      have w4 : q.tmod h = q % h := Int.tmod_eq_emod_of_nonneg hq0
      have hh0 : ¬ h = 0 := by omega
      have hpl : planAt t h n k = if t * h % n = 0 then some ⟨k, q / h, q % h⟩ else none := by unfold planAt; rw [hq]
      have hsu := plansTo_succ t l n k
      rw [hnth, hpl] at hsu
      have hlen := plansTo_len t l n k
      by_cases hcl : t * h % n = 0
      · have hcl' : ((t * h).tmod n == 0) = true := beq_int_t (tmod_iff.2 hcl)
        rw [if_pos hcl] at hsu
        simp only [Option.toList] at hsu
        have hfl := flR_len Pl.cs (n := 3) (fun _ => rfl) (plansTo t l n k)
        have hroom : ((plansTo t l n k).length + 1) * 24 ≤ 140737488355328 := by omega
        have hcs : (plansTo t l n (k + 1)).flatMap Pl.cs = (plansTo t l n k).flatMap Pl.cs ++ [.int .i64 k, .int .i64 (q / h), .int .i64 (q % h)] := by rw [hsu, List.flatMap_append]; rfl
        have hln : (plansTo t l n (k + 1)).length = (plansTo t l n k).length + 1 := by rw [hsu]; simp
        simp (decide := true) (maxSteps := 4000000) only [go_sem, Nat.reduceAdd, Nat.reduceSub, Nat.reduceMul, Nat.reduceDiv, Nat.reduceMod, Nat.reduceLT, Nat.reduceLeDiff, Nat.reduceEqDiff, Nat.reduceBEq, Nat.reduceBNe, Nat.reduceGT, Int.reduceAdd, Int.reduceSub, Int.reduceMul, Int.reduceNeg, Int.reduceLT, Int.reduceLE, Int.reduceEq, Int.reduceNe, Int.reduceBEq, Int.reduceBNe, Int.reduceToNat, Int.reduceGT, Int.reduceGE, ↓reduceIte, decide_true, decide_false, eq_self, Nat.mul_one, Nat.zero_mul, Nat.one_mul, Int.le_refl, Nat.le_refl, Int.cast_ofNat_Int, hlt, hd, w1, hn0, hcl', w2, hh0, w3, w4, hfl, hroom]
        refine hI1 _ ⟨k + 1, by omega⟩ (by simp only; omega) ?_
        simp (decide := true) (maxSteps := 4000000) only [go_sem, Nat.reduceAdd, Nat.reduceSub, Nat.reduceMul, Nat.reduceDiv, Nat.reduceMod, Nat.reduceLT, Nat.reduceLeDiff, Nat.reduceEqDiff, Nat.reduceBEq, Nat.reduceBNe, Nat.reduceGT, Int.reduceAdd, Int.reduceSub, Int.reduceMul, Int.reduceNeg, Int.reduceLT, Int.reduceLE, Int.reduceEq, Int.reduceNe, Int.reduceBEq, Int.reduceBNe, Int.reduceToNat, Int.reduceGT, Int.reduceGE, ↓reduceIte, decide_true, decide_false, eq_self, Nat.mul_one, Nat.zero_mul, Nat.one_mul, Int.le_refl, Nat.le_refl, Int.cast_ofNat_Int, hk1, hcs, hln]
      · have hcl' : ((t * h).tmod n == 0) = false := beq_int_f (fun h => hcl (tmod_iff.1 h))
        rw [if_neg hcl] at hsu
        simp only [Option.toList, List.append_nil] at hsu
        simp (decide := true) (maxSteps := 4000000) only [go_sem, Nat.reduceAdd, Nat.reduceSub, Nat.reduceMul, Nat.reduceDiv, Nat.reduceMod, Nat.reduceLT, Nat.reduceLeDiff, Nat.reduceEqDiff, Nat.reduceBEq, Nat.reduceBNe, Nat.reduceGT, Int.reduceAdd, Int.reduceSub, Int.reduceMul, Int.reduceNeg, Int.reduceLT, Int.reduceLE, Int.reduceEq, Int.reduceNe, Int.reduceBEq, Int.reduceBNe, Int.reduceToNat, Int.reduceGT, Int.reduceGE, ↓reduceIte, decide_true, decide_false, eq_self, Nat.mul_one, Nat.zero_mul, Nat.one_mul, Int.le_refl, Nat.le_refl, Int.cast_ofNat_Int, hlt, hd, w1, hn0, hcl']
        refine hI1 _ ⟨k + 1, by omega⟩ (by simp only; omega) ?_
        simp (decide := true) (maxSteps := 4000000) only [go_sem, Nat.reduceAdd, Nat.reduceSub, Nat.reduceMul, Nat.reduceDiv, Nat.reduceMod, Nat.reduceLT, Nat.reduceLeDiff, Nat.reduceEqDiff, Nat.reduceBEq, Nat.reduceBNe, Nat.reduceGT, Int.reduceAdd, Int.reduceSub, Int.reduceMul, Int.reduceNeg, Int.reduceLT, Int.reduceLE, Int.reduceEq, Int.reduceNe, Int.reduceBEq, Int.reduceBNe, Int.reduceToNat, Int.reduceGT, Int.reduceGE, ↓reduceIte, decide_true, decide_false, eq_self, Nat.mul_one, Nat.zero_mul, Nat.one_mul, Int.le_refl, Nat.le_refl, Int.cast_ofNat_Int, hk1, hsu]
    · have hke : k = l.length := by omega
      subst hke
      simp (decide := true) (maxSteps := 4000000) only [go_sem, Nat.reduceAdd, Nat.reduceSub, Nat.reduceMul, Nat.reduceDiv, Nat.reduceMod, Nat.reduceLT, Nat.reduceLeDiff, Nat.reduceEqDiff, Nat.reduceBEq, Nat.reduceBNe, Nat.reduceGT, Int.reduceAdd, Int.reduceSub, Int.reduceMul, Int.reduceNeg, Int.reduceLT, Int.reduceLE, Int.reduceEq, Int.reduceNe, Int.reduceBEq, Int.reduceBNe, Int.reduceToNat, Int.reduceGT, Int.reduceGE, ↓reduceIte, decide_true, decide_false, eq_self, Nat.mul_one, Nat.zero_mul, Nat.one_mul, Int.le_refl, Nat.le_refl, Int.cast_ofNat_Int, hlt]
      refine hQ1 _ _ ?_
      simp (decide := true) (maxSteps := 4000000) only [go_sem, Nat.reduceAdd, Nat.reduceSub, Nat.reduceMul, Nat.reduceDiv, Nat.reduceMod, Nat.reduceLT, Nat.reduceLeDiff, Nat.reduceEqDiff, Nat.reduceBEq, Nat.reduceBNe, Nat.reduceGT, Int.reduceAdd, Int.reduceSub, Int.reduceMul, Int.reduceNeg, Int.reduceLT, Int.reduceLE, Int.reduceEq, Int.reduceNe, Int.reduceBEq, Int.reduceBNe, Int.reduceToNat, Int.reduceGT, Int.reduceGE, ↓reduceIte, decide_true, decide_false, eq_self, Nat.mul_one, Nat.zero_mul, Nat.one_mul, Int.le_refl, Nat.le_refl, Int.cast_ofNat_Int]
      rfl
noncomputable def rxPlans0 : List TV → Option TV
  | [.agg [.int .i64 t, .sl cs m f], .int .i64 n] => match unI cs with
    | some l => if m = l.length ∧ headOk t l = true ∧ 1 ≤ n ∧ n ≤ 100000 then some (rowG Pl.cs (plansP t l n)) else none
    | none => none
  | _ => none
theorem rxPlans0_ok : ∀ xs r, rxPlans0 xs = some r → PCalls Tryd.prog 44 xs r := by
  intro xs r h
  unfold rxPlans0 at h
  split at h
  · rename_i t cs m f n
    split at h
    · rename_i l hl
      split at h
      · rename_i hc; cases h
        obtain ⟨rfl, h0, h1, h2⟩ := hc
        have e := unI_some hl
        rw [ic_ints] at e
        subst e
        exact rPlans_c f h0 h1 h2
      · cases h
    · cases h
  · cases h
attribute [go_sem] rxPlans0
noncomputable def spG2 : Pm.Spec := spG1.one 44 rxPlans0
@[go_sem] theorem spG2_p (f : FuncId) (xs : List TV) : spG2.p f xs = Pm.Spec.p (spG1.one 44 rxPlans0) f xs := rfl
@[go_sem] theorem spG2_h (f : FuncId) (ps : List PV) (hl : List PO) : spG2.h f ps hl = Pm.Spec.h (spG1.one 44 rxPlans0) f ps hl := rfl
@[go_sem] theorem spG2_fz (f : FuncId) : spG2.fz f = Pm.Spec.fz (spG1.one 44 rxPlans0) f := rfl
@[go_sem] theorem spG2_fr (f : FuncId) : spG2.fr f = Pm.Spec.fr (spG1.one 44 rxPlans0) f := rfl
@[go_sem] theorem spG2_mu (t : TypeId) : spG2.mu t = Pm.Spec.mu (spG1.one 44 rxPlans0) t := rfl
theorem spG2_ok : SpecOk Tryd.prog spG2 := Spec.one_ok rxPlans0_ok spG1_ok
theorem rPlansE_c (t : Int) {l : List Int} {s : TV} (hl : IsRow ic s l) (hll : l.length ≤ 17592186044415) (n : Int) : PCalls Tryd.prog 15 [.agg [.int .i64 t, s], .int .i64 n] (.tup [rowG Pl.cs (plansE t l n).1, .int .i64 (plansE t l n).2]) := by
  have rI := rowI_is hl
  unfold rowL at rI
  have e0 : rowG Pl.cs [] = .nilSl := rfl
  refine pcalls_by Tryd.mixes spG2_ok (fn := Tryd.f15) Tryd.func15 rfl (by kernel_rfl) (by show 2 ≤ _; decide) ?_
  unfold plansE
  cases h1 : headOk t l with
  | false => simp (decide := true) (maxSteps := 4000000) only [go_sem, Nat.reduceAdd, Nat.reduceSub, Nat.reduceMul, Nat.reduceDiv, Nat.reduceMod, Nat.reduceLT, Nat.reduceLeDiff, Nat.reduceEqDiff, Nat.reduceBEq, Nat.reduceBNe, Nat.reduceGT, Int.reduceAdd, Int.reduceSub, Int.reduceMul, Int.reduceNeg, Int.reduceLT, Int.reduceLE, Int.reduceEq, Int.reduceNe, Int.reduceBEq, Int.reduceBNe, Int.reduceToNat, Int.reduceGT, Int.reduceGE, ↓reduceIte, decide_true, decide_false, eq_self, Nat.mul_one, Nat.zero_mul, Nat.one_mul, Int.le_refl, Nat.le_refl, Int.cast_ofNat_Int, Tryd.f15, rI, hll, h1, e0]
  | true =>
    cases h2 : inB n 1 20000 with
    | false => simp (decide := true) (maxSteps := 4000000) only [go_sem, Nat.reduceAdd, Nat.reduceSub, Nat.reduceMul, Nat.reduceDiv, Nat.reduceMod, Nat.reduceLT, Nat.reduceLeDiff, Nat.reduceEqDiff, Nat.reduceBEq, Nat.reduceBNe, Nat.reduceGT, Int.reduceAdd, Int.reduceSub, Int.reduceMul, Int.reduceNeg, Int.reduceLT, Int.reduceLE, Int.reduceEq, Int.reduceNe, Int.reduceBEq, Int.reduceBNe, Int.reduceToNat, Int.reduceGT, Int.reduceGE, ↓reduceIte, decide_true, decide_false, eq_self, Nat.mul_one, Nat.zero_mul, Nat.one_mul, Int.le_refl, Nat.le_refl, Int.cast_ofNat_Int, Tryd.f15, rI, hll, h1, h2, e0]
    | true =>
      have hh := headOk_iff.1 h1
      have hn := inB_iff.1 h2
      obtain ⟨f, rfl⟩ := hl.ne (by omega)
      rw [ic_ints] at rI ⊢
      simp only [unI_eq, if_true] at rI
      have c1 : 1 ≤ n ∧ n ≤ 100000 := by omega
      by_cases h0 : (plansP t l n).length = 0
      · have en : plansP t l n = [] := List.length_eq_zero_iff.1 h0
        have er : rowG Pl.cs (plansP t l n) = .nilSl := by rw [en]; rfl
        simp (decide := true) (maxSteps := 4000000) only [go_sem, Nat.reduceAdd, Nat.reduceSub, Nat.reduceMul, Nat.reduceDiv, Nat.reduceMod, Nat.reduceLT, Nat.reduceLeDiff, Nat.reduceEqDiff, Nat.reduceBEq, Nat.reduceBNe, Nat.reduceGT, Int.reduceAdd, Int.reduceSub, Int.reduceMul, Int.reduceNeg, Int.reduceLT, Int.reduceLE, Int.reduceEq, Int.reduceNe, Int.reduceBEq, Int.reduceBNe, Int.reduceToNat, Int.reduceGT, Int.reduceGE, ↓reduceIte, decide_true, decide_false, eq_self, Nat.mul_one, Nat.zero_mul, Nat.one_mul, Int.le_refl, Nat.le_refl, Int.cast_ofNat_Int, Tryd.f15, rI, hll, h1, h2, unI_eq, c1, er, h0, e0]
      · have er : rowG Pl.cs (plansP t l n) = .sl ((plansP t l n).flatMap Pl.cs) (plansP t l n).length false := by unfold rowG; rw [if_neg h0]
        have h0' : (((plansP t l n).length : Int) == 0) = false := beq_int_f (by omega)
        simp (decide := true) (maxSteps := 4000000) only [go_sem, Nat.reduceAdd, Nat.reduceSub, Nat.reduceMul, Nat.reduceDiv, Nat.reduceMod, Nat.reduceLT, Nat.reduceLeDiff, Nat.reduceEqDiff, Nat.reduceBEq, Nat.reduceBNe, Nat.reduceGT, Int.reduceAdd, Int.reduceSub, Int.reduceMul, Int.reduceNeg, Int.reduceLT, Int.reduceLE, Int.reduceEq, Int.reduceNe, Int.reduceBEq, Int.reduceBNe, Int.reduceToNat, Int.reduceGT, Int.reduceGE, ↓reduceIte, decide_true, decide_false, eq_self, Nat.mul_one, Nat.zero_mul, Nat.one_mul, Int.le_refl, Nat.le_refl, Int.cast_ofNat_Int, Tryd.f15, rI, hll, h1, h2, unI_eq, c1, er, h0, h0']
theorem rSamePlans_c {a b : List Pl} {s t : TV} (hs : IsRow Pl.cs s a) (ht : IsRow Pl.cs t b) (ha : a.length ≤ 9223372036854775806) : PCalls Tryd.prog 16 [s, t] (.bool (decide (a = b))) := by
  refine pcalls_by Tryd.mixes noSpec_ok (fn := Tryd.f16) Tryd.func16 rfl (by kernel_rfl) (by show 2 ≤ _; decide) ?_
  by_cases hl : a.length = b.length
  · by_cases h0 : a.length = 0
    · have ea : a = [] := List.length_eq_zero_iff.1 h0
      have eb : b = [] := List.length_eq_zero_iff.1 (by omega)
      subst ea; subst eb
      rcases hs with ⟨rfl, _⟩ | ⟨f1, rfl⟩ <;> rcases ht with ⟨rfl, _⟩ | ⟨f2, rfl⟩
      all_goals
        simp (decide := true) (maxSteps := 4000000) only [go_sem, Nat.reduceAdd, Nat.reduceSub, Nat.reduceMul, Nat.reduceDiv, Nat.reduceMod, Nat.reduceLT, Nat.reduceLeDiff, Nat.reduceEqDiff, Nat.reduceBEq, Nat.reduceBNe, Nat.reduceGT, Int.reduceAdd, Int.reduceSub, Int.reduceMul, Int.reduceNeg, Int.reduceLT, Int.reduceLE, Int.reduceEq, Int.reduceNe, Int.reduceBEq, Int.reduceBNe, Int.reduceToNat, Int.reduceGT, Int.reduceGE, ↓reduceIte, decide_true, decide_false, eq_self, Nat.mul_one, Nat.zero_mul, Nat.one_mul, Int.le_refl, Nat.le_refl, Int.cast_ofNat_Int, Tryd.f16, List.length_nil, beq_self_eq_true]
        refine pwpC_loopU (A := Unit) [0, 1, 4] (fun _ => [(6, .t (.int .i64 0)), (5, .t (.bool true))]) (fun _ => []) (fun _ => 0) () (by decide) (fun _ => by rfl) ?_ fun Q1 hQ1 _ I1 hI1 => ?_
        · simp (decide := true) (maxSteps := 4000000) only [go_sem, Nat.reduceAdd, Nat.reduceSub, Nat.reduceMul, Nat.reduceDiv, Nat.reduceMod, Nat.reduceLT, Nat.reduceLeDiff, Nat.reduceEqDiff, Nat.reduceBEq, Nat.reduceBNe, Nat.reduceGT, Int.reduceAdd, Int.reduceSub, Int.reduceMul, Int.reduceNeg, Int.reduceLT, Int.reduceLE, Int.reduceEq, Int.reduceNe, Int.reduceBEq, Int.reduceBNe, Int.reduceToNat, Int.reduceGT, Int.reduceGE, ↓reduceIte, decide_true, decide_false, eq_self, Nat.mul_one, Nat.zero_mul, Nat.one_mul, Int.le_refl, Nat.le_refl, Int.cast_ofNat_Int]
        · simp (decide := true) (maxSteps := 4000000) only [go_sem, Nat.reduceAdd, Nat.reduceSub, Nat.reduceMul, Nat.reduceDiv, Nat.reduceMod, Nat.reduceLT, Nat.reduceLeDiff, Nat.reduceEqDiff, Nat.reduceBEq, Nat.reduceBNe, Nat.reduceGT, Int.reduceAdd, Int.reduceSub, Int.reduceMul, Int.reduceNeg, Int.reduceLT, Int.reduceLE, Int.reduceEq, Int.reduceNe, Int.reduceBEq, Int.reduceBNe, Int.reduceToNat, Int.reduceGT, Int.reduceGE, ↓reduceIte, decide_true, decide_false, eq_self, Nat.mul_one, Nat.zero_mul, Nat.one_mul, Int.le_refl, Nat.le_refl, Int.cast_ofNat_Int, List.length_nil]
          refine hQ1 _ _ ?_
          simp (decide := true) (maxSteps := 4000000) only [go_sem, Nat.reduceAdd, Nat.reduceSub, Nat.reduceMul, Nat.reduceDiv, Nat.reduceMod, Nat.reduceLT, Nat.reduceLeDiff, Nat.reduceEqDiff, Nat.reduceBEq, Nat.reduceBNe, Nat.reduceGT, Int.reduceAdd, Int.reduceSub, Int.reduceMul, Int.reduceNeg, Int.reduceLT, Int.reduceLE, Int.reduceEq, Int.reduceNe, Int.reduceBEq, Int.reduceBNe, Int.reduceToNat, Int.reduceGT, Int.reduceGE, ↓reduceIte, decide_true, decide_false, eq_self, Nat.mul_one, Nat.zero_mul, Nat.one_mul, Int.le_refl, Nat.le_refl, Int.cast_ofNat_Int]
    · obtain ⟨f1, rfl⟩ := hs.ne (by omega)
      obtain ⟨f2, rfl⟩ := ht.ne (by omega)
      have hl' : ((a.length : Int) == (b.length : Int)) = true := beq_int_t (by omega)
      simp (decide := true) (maxSteps := 4000000) only [go_sem, Nat.reduceAdd, Nat.reduceSub, Nat.reduceMul, Nat.reduceDiv, Nat.reduceMod, Nat.reduceLT, Nat.reduceLeDiff, Nat.reduceEqDiff, Nat.reduceBEq, Nat.reduceBNe, Nat.reduceGT, Int.reduceAdd, Int.reduceSub, Int.reduceMul, Int.reduceNeg, Int.reduceLT, Int.reduceLE, Int.reduceEq, Int.reduceNe, Int.reduceBEq, Int.reduceBNe, Int.reduceToNat, Int.reduceGT, Int.reduceGE, ↓reduceIte, decide_true, decide_false, eq_self, Nat.mul_one, Nat.zero_mul, Nat.one_mul, Int.le_refl, Nat.le_refl, Int.cast_ofNat_Int, Tryd.f16, hl']
      refine pwpC_loopU (A := { k : Nat × Bool // k.1 ≤ a.length ∧ (k.2 = true → a.take k.1 = b.take k.1) ∧ (k.2 = false → a ≠ b) }) [0, 1, 4] (fun k => [(6, .t (.int .i64 k.1.1)), (5, .t (.bool k.1.2))]) (fun _ => []) (fun k => a.length - k.1.1) ⟨(0, true), by simp⟩ (by decide) (fun _ => by rfl) ?_ fun Q1 hQ1 ⟨(k, ok), hka, hk1, hk2⟩ I1 hI1 => ?_
      · simp (decide := true) (maxSteps := 4000000) only [go_sem, Nat.reduceAdd, Nat.reduceSub, Nat.reduceMul, Nat.reduceDiv, Nat.reduceMod, Nat.reduceLT, Nat.reduceLeDiff, Nat.reduceEqDiff, Nat.reduceBEq, Nat.reduceBNe, Nat.reduceGT, Int.reduceAdd, Int.reduceSub, Int.reduceMul, Int.reduceNeg, Int.reduceLT, Int.reduceLE, Int.reduceEq, Int.reduceNe, Int.reduceBEq, Int.reduceBNe, Int.reduceToNat, Int.reduceGT, Int.reduceGE, ↓reduceIte, decide_true, decide_false, eq_self, Nat.mul_one, Nat.zero_mul, Nat.one_mul, Int.le_refl, Nat.le_refl, Int.cast_ofNat_Int]
      · cases ok with
        | false =>
          have hd : decide (a = b) = false := decide_eq_false (hk2 rfl)
          simp (decide := true) (maxSteps := 4000000) only [go_sem, Nat.reduceAdd, Nat.reduceSub, Nat.reduceMul, Nat.reduceDiv, Nat.reduceMod, Nat.reduceLT, Nat.reduceLeDiff, Nat.reduceEqDiff, Nat.reduceBEq, Nat.reduceBNe, Nat.reduceGT, Int.reduceAdd, Int.reduceSub, Int.reduceMul, Int.reduceNeg, Int.reduceLT, Int.reduceLE, Int.reduceEq, Int.reduceNe, Int.reduceBEq, Int.reduceBNe, Int.reduceToNat, Int.reduceGT, Int.reduceGE, ↓reduceIte, decide_true, decide_false, eq_self, Nat.mul_one, Nat.zero_mul, Nat.one_mul, Int.le_refl, Nat.le_refl, Int.cast_ofNat_Int]
          refine hQ1 _ _ ?_
          simp (decide := true) (maxSteps := 4000000) only [go_sem, Nat.reduceAdd, Nat.reduceSub, Nat.reduceMul, Nat.reduceDiv, Nat.reduceMod, Nat.reduceLT, Nat.reduceLeDiff, Nat.reduceEqDiff, Nat.reduceBEq, Nat.reduceBNe, Nat.reduceGT, Int.reduceAdd, Int.reduceSub, Int.reduceMul, Int.reduceNeg, Int.reduceLT, Int.reduceLE, Int.reduceEq, Int.reduceNe, Int.reduceBEq, Int.reduceBNe, Int.reduceToNat, Int.reduceGT, Int.reduceGE, ↓reduceIte, decide_true, decide_false, eq_self, Nat.mul_one, Nat.zero_mul, Nat.one_mul, Int.le_refl, Nat.le_refl, Int.cast_ofNat_Int, hd]
        | true =>
          have hk := hk1 rfl
          simp only at hka hk
          by_cases hlt : (k : Int) < a.length
          · have hltb : (k : Int) < b.length := by omega
            obtain ⟨x, hx⟩ := get_lt hlt
            obtain ⟨y, hy⟩ := get_lt hltb
            have d1 := flat_at Pl.cs (n := 3) (fun _ => rfl) hx
            have d2 := flat_at Pl.cs (n := 3) (fun _ => rfl) hy
            have hc1 : IntKind.i64.wrap (k + 1) = ((k + 1 : Nat) : Int) := by rw [wrap_in (by omega) (by omega)]; omega
            obtain ⟨x0, x1, x2⟩ := x
            obtain ⟨y0, y1, y2⟩ := y
            by_cases hxy : x0 = y0 ∧ x1 = y1 ∧ x2 = y2
            · obtain ⟨rfl, rfl, rfl⟩ := hxy
              simp (decide := true) (maxSteps := 4000000) only [go_sem, Nat.reduceAdd, Nat.reduceSub, Nat.reduceMul, Nat.reduceDiv, Nat.reduceMod, Nat.reduceLT, Nat.reduceLeDiff, Nat.reduceEqDiff, Nat.reduceBEq, Nat.reduceBNe, Nat.reduceGT, Int.reduceAdd, Int.reduceSub, Int.reduceMul, Int.reduceNeg, Int.reduceLT, Int.reduceLE, Int.reduceEq, Int.reduceNe, Int.reduceBEq, Int.reduceBNe, Int.reduceToNat, Int.reduceGT, Int.reduceGE, ↓reduceIte, decide_true, decide_false, eq_self, Nat.mul_one, Nat.zero_mul, Nat.one_mul, Int.le_refl, Nat.le_refl, Int.cast_ofNat_Int, hlt, hltb, d1, d2, Pl.cs, beq_self_eq_true, Int.toNat_natCast]
              refine hI1 _ ⟨(k + 1, true), by simp only; omega, fun _ => by simp only; rw [take_snoc hx, take_snoc hy, hk], fun h => by cases h⟩ (by simp only; omega) ?_
              simp (decide := true) (maxSteps := 4000000) only [go_sem, Nat.reduceAdd, Nat.reduceSub, Nat.reduceMul, Nat.reduceDiv, Nat.reduceMod, Nat.reduceLT, Nat.reduceLeDiff, Nat.reduceEqDiff, Nat.reduceBEq, Nat.reduceBNe, Nat.reduceGT, Int.reduceAdd, Int.reduceSub, Int.reduceMul, Int.reduceNeg, Int.reduceLT, Int.reduceLE, Int.reduceEq, Int.reduceNe, Int.reduceBEq, Int.reduceBNe, Int.reduceToNat, Int.reduceGT, Int.reduceGE, ↓reduceIte, decide_true, decide_false, eq_self, Nat.mul_one, Nat.zero_mul, Nat.one_mul, Int.le_refl, Nat.le_refl, Int.cast_ofNat_Int, hc1]
            · have hb : (x0 == y0 && (x1 == y1 && x2 == y2)) = false := by simpa using hxy
              have hne : a ≠ b := by rintro rfl; rw [hx] at hy; cases hy; exact hxy ⟨rfl, rfl, rfl⟩
              simp (decide := true) (maxSteps := 4000000) only [go_sem, Nat.reduceAdd, Nat.reduceSub, Nat.reduceMul, Nat.reduceDiv, Nat.reduceMod, Nat.reduceLT, Nat.reduceLeDiff, Nat.reduceEqDiff, Nat.reduceBEq, Nat.reduceBNe, Nat.reduceGT, Int.reduceAdd, Int.reduceSub, Int.reduceMul, Int.reduceNeg, Int.reduceLT, Int.reduceLE, Int.reduceEq, Int.reduceNe, Int.reduceBEq, Int.reduceBNe, Int.reduceToNat, Int.reduceGT, Int.reduceGE, ↓reduceIte, decide_true, decide_false, eq_self, Nat.mul_one, Nat.zero_mul, Nat.one_mul, Int.le_refl, Nat.le_refl, Int.cast_ofNat_Int, hlt, hltb, d1, d2, Pl.cs, hb, Int.toNat_natCast]
              refine hI1 _ ⟨(k + 1, false), by simp only; omega, (fun h => by cases h), fun _ => hne⟩ (by simp only; omega) ?_
              simp (decide := true) (maxSteps := 4000000) only [go_sem, Nat.reduceAdd, Nat.reduceSub, Nat.reduceMul, Nat.reduceDiv, Nat.reduceMod, Nat.reduceLT, Nat.reduceLeDiff, Nat.reduceEqDiff, Nat.reduceBEq, Nat.reduceBNe, Nat.reduceGT, Int.reduceAdd, Int.reduceSub, Int.reduceMul, Int.reduceNeg, Int.reduceLT, Int.reduceLE, Int.reduceEq, Int.reduceNe, Int.reduceBEq, Int.reduceBNe, Int.reduceToNat, Int.reduceGT, Int.reduceGE, ↓reduceIte, decide_true, decide_false, eq_self, Nat.mul_one, Nat.zero_mul, Nat.one_mul, Int.le_refl, Nat.le_refl, Int.cast_ofNat_Int, hc1]
          · have hke : k = a.length := by omega
            subst hke
            simp (decide := true) (maxSteps := 4000000) only [go_sem, Nat.reduceAdd, Nat.reduceSub, Nat.reduceMul, Nat.reduceDiv, Nat.reduceMod, Nat.reduceLT, Nat.reduceLeDiff, Nat.reduceEqDiff, Nat.reduceBEq, Nat.reduceBNe, Nat.reduceGT, Int.reduceAdd, Int.reduceSub, Int.reduceMul, Int.reduceNeg, Int.reduceLT, Int.reduceLE, Int.reduceEq, Int.reduceNe, Int.reduceBEq, Int.reduceBNe, Int.reduceToNat, Int.reduceGT, Int.reduceGE, ↓reduceIte, decide_true, decide_false, eq_self, Nat.mul_one, Nat.zero_mul, Nat.one_mul, Int.le_refl, Nat.le_refl, Int.cast_ofNat_Int, hlt]
            refine hQ1 _ _ ?_
            have : decide (a = b) = true := by
              rw [decide_eq_true_eq]
              rwa [List.take_length, List.take_of_length_le (by omega)] at hk
            simp (decide := true) (maxSteps := 4000000) only [go_sem, Nat.reduceAdd, Nat.reduceSub, Nat.reduceMul, Nat.reduceDiv, Nat.reduceMod, Nat.reduceLT, Nat.reduceLeDiff, Nat.reduceEqDiff, Nat.reduceBEq, Nat.reduceBNe, Nat.reduceGT, Int.reduceAdd, Int.reduceSub, Int.reduceMul, Int.reduceNeg, Int.reduceLT, Int.reduceLE, Int.reduceEq, Int.reduceNe, Int.reduceBEq, Int.reduceBNe, Int.reduceToNat, Int.reduceGT, Int.reduceGE, ↓reduceIte, decide_true, decide_false, eq_self, Nat.mul_one, Nat.zero_mul, Nat.one_mul, Int.le_refl, Nat.le_refl, Int.cast_ofNat_Int, this]
  · have hl' : ((a.length : Int) == (b.length : Int)) = false := beq_int_f (by omega)
    have hd : decide (a = b) = false := by
      rw [decide_eq_false_iff_not]
      rintro rfl; exact hl rfl
    rcases hs with ⟨rfl, rfl⟩ | ⟨f1, rfl⟩ <;> rcases ht with ⟨rfl, rfl⟩ | ⟨f2, rfl⟩
    · exact absurd rfl hl
    all_goals
      try simp only [List.length_nil, Int.cast_ofNat_Int] at hl'
      simp (decide := true) (maxSteps := 4000000) only [go_sem, Nat.reduceAdd, Nat.reduceSub, Nat.reduceMul, Nat.reduceDiv, Nat.reduceMod, Nat.reduceLT, Nat.reduceLeDiff, Nat.reduceEqDiff, Nat.reduceBEq, Nat.reduceBNe, Nat.reduceGT, Int.reduceAdd, Int.reduceSub, Int.reduceMul, Int.reduceNeg, Int.reduceLT, Int.reduceLE, Int.reduceEq, Int.reduceNe, Int.reduceBEq, Int.reduceBNe, Int.reduceToNat, Int.reduceGT, Int.reduceGE, ↓reduceIte, decide_true, decide_false, eq_self, Nat.mul_one, Nat.zero_mul, Nat.one_mul, Int.le_refl, Nat.le_refl, Int.cast_ofNat_Int, Tryd.f16, hl']
      refine pwpC_loopU (A := Unit) [0, 1, 4] (fun _ => [(6, .t (.int .i64 0)), (5, .t (.bool false))]) (fun _ => []) (fun _ => 0) () (by decide) (fun _ => by rfl) ?_ fun Q1 hQ1 _ I1 hI1 => ?_
      · simp (decide := true) (maxSteps := 4000000) only [go_sem, Nat.reduceAdd, Nat.reduceSub, Nat.reduceMul, Nat.reduceDiv, Nat.reduceMod, Nat.reduceLT, Nat.reduceLeDiff, Nat.reduceEqDiff, Nat.reduceBEq, Nat.reduceBNe, Nat.reduceGT, Int.reduceAdd, Int.reduceSub, Int.reduceMul, Int.reduceNeg, Int.reduceLT, Int.reduceLE, Int.reduceEq, Int.reduceNe, Int.reduceBEq, Int.reduceBNe, Int.reduceToNat, Int.reduceGT, Int.reduceGE, ↓reduceIte, decide_true, decide_false, eq_self, Nat.mul_one, Nat.zero_mul, Nat.one_mul, Int.le_refl, Nat.le_refl, Int.cast_ofNat_Int]
      · simp (decide := true) (maxSteps := 4000000) only [go_sem, Nat.reduceAdd, Nat.reduceSub, Nat.reduceMul, Nat.reduceDiv, Nat.reduceMod, Nat.reduceLT, Nat.reduceLeDiff, Nat.reduceEqDiff, Nat.reduceBEq, Nat.reduceBNe, Nat.reduceGT, Int.reduceAdd, Int.reduceSub, Int.reduceMul, Int.reduceNeg, Int.reduceLT, Int.reduceLE, Int.reduceEq, Int.reduceNe, Int.reduceBEq, Int.reduceBNe, Int.reduceToNat, Int.reduceGT, Int.reduceGE, ↓reduceIte, decide_true, decide_false, eq_self, Nat.mul_one, Nat.zero_mul, Nat.one_mul, Int.le_refl, Nat.le_refl, Int.cast_ofNat_Int, List.length_nil]
        refine hQ1 _ _ ?_
        simp (decide := true) (maxSteps := 4000000) only [go_sem, Nat.reduceAdd, Nat.reduceSub, Nat.reduceMul, Nat.reduceDiv, Nat.reduceMod, Nat.reduceLT, Nat.reduceLeDiff, Nat.reduceEqDiff, Nat.reduceBEq, Nat.reduceBNe, Nat.reduceGT, Int.reduceAdd, Int.reduceSub, Int.reduceMul, Int.reduceNeg, Int.reduceLT, Int.reduceLE, Int.reduceEq, Int.reduceNe, Int.reduceBEq, Int.reduceBNe, Int.reduceToNat, Int.reduceGT, Int.reduceGE, ↓reduceIte, decide_true, decide_false, eq_self, Nat.mul_one, Nat.zero_mul, Nat.one_mul, Int.le_refl, Nat.le_refl, Int.cast_ofNat_Int, hd]
end Go.Proofs.YtnoahnbjdapieaaDoor

/- Part Ik. -/
namespace Go.Oc
open Go Go.Pm
set_option maxRecDepth 100000
def unP : List TV → Option (List Pl)
  | [] => some []
  | .int .i64 a :: .int .i64 b :: .int .i64 c :: r => (unP r).map (⟨a, b, c⟩ :: ·)
  | _ => none
theorem unP_eq : ∀ l : List Pl, unP (l.flatMap Pl.cs) = some l
  | [] => rfl
  | p :: l => by
    rw [List.flatMap_cons]
    show (unP (l.flatMap Pl.cs)).map _ = _
    rw [unP_eq l]; rfl
theorem unP_some : ∀ {cs : List TV} {l : List Pl}, unP cs = some l → cs = l.flatMap Pl.cs := by
  intro cs
  fun_induction unP cs with
  | case1 => intro l h; cases h; rfl
  | case2 a b c r ih =>
    intro l h
    cases hr : unP r with
    | none => rw [hr] at h; cases h
    | some m =>
      rw [hr] at h
      cases h
      rw [List.flatMap_cons, ← ih hr]; rfl
  | case3 => intro l h; cases h
theorem exP : plansE 40 [15, 18, 21] 12 = ([⟨0, 3, 5⟩, ⟨1, 3, 6⟩, ⟨2, 3, 7⟩], 0) := by decide +kernel
theorem exC : compE 40 [15, 18, 21] 90 = (⟨0, 1, 5, 2⟩, 0) := by decide +kernel
theorem exL : cutE 40 [15, 18, 21] 0 7 = ([0, 86, 171, 257, 343, 429, 514], 92572, 0) := by decide +kernel
theorem exB : bestE 40 [15, 18, 21] 11 = (2, 70130, 0) := by decide +kernel
theorem exT : trainE [20, 30, 40, 60] 1 4 = (⟨0, 2, 1, 3⟩, 0) := by decide +kernel
theorem exD : diffE 40 [15, 18, 21] [20, 30, 40, 60] 11 = (⟨10, ⟨0, 4, 0⟩, ⟨2, 0, 3, 1⟩, false⟩, 0) := by decide +kernel
end Go.Oc
namespace Go.Proofs.YtnoahnbjdapieaaDoor
open Go.RowKit Go.Pm Go.Oc
set_option maxRecDepth 100000
set_option linter.unusedVariables false
set_option maxHeartbeats 4000000

noncomputable def xPlans : List TV → Option TV
  | [.agg [.int .i64 t, s], .int .i64 n] => match rowL unI s with
    | some l => if l.length ≤ 17592186044415 then some (.tup [rowF Pl.cs (plansE t l n).1, .int .i64 (plansE t l n).2]) else none
    | none => none
  | _ => none
theorem xPlans_ok : ∀ xs r, xPlans xs = some r → PCalls Tryd.prog 14 xs r := by
  intro xs r h
  unfold xPlans at h
  split at h
  · split at h
    · rename_i l hl
      have hl := rowL_some (un := unI) rfl (@unI_some) hl
      split at h
      · rename_i hc; cases h; exact iPlans_c _ hl hc _
      · cases h
    · cases h
  · cases h
attribute [go_sem] xPlans
noncomputable def xComp : List TV → Option TV
  | [.agg [.int .i64 t, s], .int .i64 n] => match rowL unI s with
    | some l => if l.length ≤ 17592186044415 then some (.tup [(compE t l n).1.tv, .int .i64 (compE t l n).2]) else none
    | none => none
  | _ => none
theorem xComp_ok : ∀ xs r, xComp xs = some r → PCalls Tryd.prog 19 xs r := by
  intro xs r h
  unfold xComp at h
  split at h
  · split at h
    · rename_i l hl
      have hl := rowL_some (un := unI) rfl (@unI_some) hl
      split at h
      · rename_i hc; cases h; exact iCompound_c _ hl hc _
      · cases h
    · cases h
  · cases h
attribute [go_sem] xComp
noncomputable def xCut : List TV → Option TV
  | [.agg [.int .i64 t, s], .int .i64 c, .int .i64 n] => match rowL unI s with
    | some l => if l.length ≤ 17592186044415 then some (.tup [rowG ic (cutE t l c n).1, .int .i64 (cutE t l c n).2.1, .int .i64 (cutE t l c n).2.2]) else none
    | none => none
  | _ => none
theorem xCut_ok : ∀ xs r, xCut xs = some r → PCalls Tryd.prog 22 xs r := by
  intro xs r h
  unfold xCut at h
  split at h
  · split at h
    · rename_i l hl
      have hl := rowL_some (un := unI) rfl (@unI_some) hl
      split at h
      · rename_i hc; cases h; exact iCut_c _ hl hc _ _
      · cases h
    · cases h
  · cases h
attribute [go_sem] xCut
noncomputable def xBest : List TV → Option TV
  | [.agg [.int .i64 t, s], .int .i64 n] => match rowL unI s with
    | some l => if l.length ≤ 17592186044415 then some (.tup [.int .i64 (bestE t l n).1, .int .i64 (bestE t l n).2.1, .int .i64 (bestE t l n).2.2]) else none
    | none => none
  | _ => none
theorem xBest_ok : ∀ xs r, xBest xs = some r → PCalls Tryd.prog 25 xs r := by
  intro xs r h
  unfold xBest at h
  split at h
  · split at h
    · rename_i l hl
      have hl := rowL_some (un := unI) rfl (@unI_some) hl
      split at h
      · rename_i hc; cases h; exact iBestE_c _ hl hc _
      · cases h
    · cases h
  · cases h
attribute [go_sem] xBest
noncomputable def xTrain : List TV → Option TV
  | [s, .int .i64 p, .int .i64 q] => match rowL unI s with
    | some l => if l.length ≤ 17592186044415 then some (.tup [(trainE l p q).1.tv, .int .i64 (trainE l p q).2]) else none
    | none => none
  | _ => none
theorem xTrain_ok : ∀ xs r, xTrain xs = some r → PCalls Tryd.prog 27 xs r := by
  intro xs r h
  unfold xTrain at h
  split at h
  · split at h
    · rename_i l hl
      have hl := rowL_some (un := unI) rfl (@unI_some) hl
      split at h
      · rename_i hc; cases h; exact iTrainE_c hl hc _ _
      · cases h
    · cases h
  · cases h
attribute [go_sem] xTrain
noncomputable def xDiff : List TV → Option TV
  | [.agg [.int .i64 t, s], u, .int .i64 n] => match rowL unI s, rowL unI u with
    | some l, some st => if l.length ≤ 17592186044415 ∧ st.length ≤ 17592186044415 then some (.tup [(diffE t l st n).1.tv, .int .i64 (diffE t l st n).2]) else none
    | _, _ => none
  | _ => none
theorem xDiff_ok : ∀ xs r, xDiff xs = some r → PCalls Tryd.prog 29 xs r := by
  intro xs r h
  unfold xDiff at h
  split at h
  · split at h
    · rename_i a b ha hb
      split at h
      · rename_i hc; cases h
        exact iDiff_c _ (rowL_some (un := unI) rfl (@unI_some) ha) hc.1 (rowL_some (un := unI) rfl (@unI_some) hb) hc.2 _
      · cases h
    · cases h
  · cases h
noncomputable def xSameP : List TV → Option TV
  | [s, u] => match rowL unP s, rowL unP u with
    | some a, some b => if a.length ≤ 9223372036854775806 then some (.bool (decide (a = b))) else none
    | _, _ => none
  | _ => none
theorem xSameP_ok : ∀ xs r, xSameP xs = some r → PCalls Tryd.prog 16 xs r := by
  intro xs r h
  unfold xSameP at h
  split at h
  · split at h
    · rename_i a b ha hb
      split at h
      · rename_i hc; cases h
        exact rSamePlans_c (rowL_some (un := unP) rfl (@unP_some) ha) (rowL_some (un := unP) rfl (@unP_some) hb) hc
      · cases h
    · cases h
  · cases h
attribute [go_sem] xDiff xSameP
noncomputable def spK1 : Pm.Spec := (((((((spB3.one 14 xPlans).one 19 xComp).one 22 xCut).one 25 xBest).one 27 xTrain).one 29 xDiff).one 16 xSameP).one 17 ixCheck
@[go_sem] theorem spK1_p (f : FuncId) (xs : List TV) : spK1.p f xs = Pm.Spec.p ((((((((spB3.one 14 xPlans).one 19 xComp).one 22 xCut).one 25 xBest).one 27 xTrain).one 29 xDiff).one 16 xSameP).one 17 ixCheck) f xs := rfl
@[go_sem] theorem spK1_h (f : FuncId) (ps : List PV) (hl : List PO) : spK1.h f ps hl = Pm.Spec.h ((((((((spB3.one 14 xPlans).one 19 xComp).one 22 xCut).one 25 xBest).one 27 xTrain).one 29 xDiff).one 16 xSameP).one 17 ixCheck) f ps hl := rfl
@[go_sem] theorem spK1_fz (f : FuncId) : spK1.fz f = Pm.Spec.fz ((((((((spB3.one 14 xPlans).one 19 xComp).one 22 xCut).one 25 xBest).one 27 xTrain).one 29 xDiff).one 16 xSameP).one 17 ixCheck) f := rfl
@[go_sem] theorem spK1_fr (f : FuncId) : spK1.fr f = Pm.Spec.fr ((((((((spB3.one 14 xPlans).one 19 xComp).one 22 xCut).one 25 xBest).one 27 xTrain).one 29 xDiff).one 16 xSameP).one 17 ixCheck) f := rfl
@[go_sem] theorem spK1_mu (t : TypeId) : spK1.mu t = Pm.Spec.mu ((((((((spB3.one 14 xPlans).one 19 xComp).one 22 xCut).one 25 xBest).one 27 xTrain).one 29 xDiff).one 16 xSameP).one 17 ixCheck) t := rfl
theorem spK1_ok : SpecOk Tryd.prog spK1 := Spec.one_ok ixCheck_ok (Spec.one_ok xSameP_ok (Spec.one_ok xDiff_ok (Spec.one_ok xTrain_ok (Spec.one_ok xBest_ok (Spec.one_ok xCut_ok (Spec.one_ok xComp_ok (Spec.one_ok xPlans_ok spB3_ok)))))))
theorem lHead_c : PCalls Tryd.prog 40 [] (.agg [.int .i64 40, .sl [.int .i64 15, .int .i64 18, .int .i64 21] 3 true]) := by
  refine pcalls_by Tryd.mixes noSpec_ok (fn := Tryd.f40) Tryd.func40 rfl (by kernel_rfl) (by show 0 ≤ _; decide) ?_
  simp (decide := true) (maxSteps := 4000000) only [go_sem, Nat.reduceAdd, Nat.reduceSub, Nat.reduceMul, Nat.reduceDiv, Nat.reduceMod, Nat.reduceLT, Nat.reduceLeDiff, Nat.reduceEqDiff, Nat.reduceBEq, Nat.reduceBNe, Nat.reduceGT, Int.reduceAdd, Int.reduceSub, Int.reduceMul, Int.reduceNeg, Int.reduceLT, Int.reduceLE, Int.reduceEq, Int.reduceNe, Int.reduceBEq, Int.reduceBNe, Int.reduceToNat, Int.reduceGT, Int.reduceGE, ↓reduceIte, decide_true, decide_false, eq_self, Nat.mul_one, Nat.zero_mul, Nat.one_mul, Int.le_refl, Nat.le_refl, Int.cast_ofNat_Int, Tryd.f40]
noncomputable def xHead : List TV → Option TV
  | [] => some (.agg [.int .i64 40, .sl [.int .i64 15, .int .i64 18, .int .i64 21] 3 true])
  | _ => none
theorem xHead_ok : ∀ xs r, xHead xs = some r → PCalls Tryd.prog 40 xs r := by
  intro xs r h
  unfold xHead at h
  split at h
  · cases h; exact lHead_c
  · cases h
attribute [go_sem] xHead
theorem lStock_c : PCalls Tryd.prog 41 [] (.sl [.int .i64 20, .int .i64 30, .int .i64 40, .int .i64 60] 4 true) := by
  refine pcalls_by Tryd.mixes noSpec_ok (fn := Tryd.f41) Tryd.func41 rfl (by kernel_rfl) (by show 0 ≤ _; decide) ?_
  simp (decide := true) (maxSteps := 4000000) only [go_sem, Nat.reduceAdd, Nat.reduceSub, Nat.reduceMul, Nat.reduceDiv, Nat.reduceMod, Nat.reduceLT, Nat.reduceLeDiff, Nat.reduceEqDiff, Nat.reduceBEq, Nat.reduceBNe, Nat.reduceGT, Int.reduceAdd, Int.reduceSub, Int.reduceMul, Int.reduceNeg, Int.reduceLT, Int.reduceLE, Int.reduceEq, Int.reduceNe, Int.reduceBEq, Int.reduceBNe, Int.reduceToNat, Int.reduceGT, Int.reduceGE, ↓reduceIte, decide_true, decide_false, eq_self, Nat.mul_one, Nat.zero_mul, Nat.one_mul, Int.le_refl, Nat.le_refl, Int.cast_ofNat_Int, Tryd.f41]
noncomputable def xStock : List TV → Option TV
  | [] => some (.sl [.int .i64 20, .int .i64 30, .int .i64 40, .int .i64 60] 4 true)
  | _ => none
theorem xStock_ok : ∀ xs r, xStock xs = some r → PCalls Tryd.prog 41 xs r := by
  intro xs r h
  unfold xStock at h
  split at h
  · cases h; exact lStock_c
  · cases h
attribute [go_sem] xStock
noncomputable def spK2 : Pm.Spec := (spK1.one 40 xHead).one 41 xStock
@[go_sem] theorem spK2_p (f : FuncId) (xs : List TV) : spK2.p f xs = Pm.Spec.p ((spK1.one 40 xHead).one 41 xStock) f xs := rfl
@[go_sem] theorem spK2_h (f : FuncId) (ps : List PV) (hl : List PO) : spK2.h f ps hl = Pm.Spec.h ((spK1.one 40 xHead).one 41 xStock) f ps hl := rfl
@[go_sem] theorem spK2_fz (f : FuncId) : spK2.fz f = Pm.Spec.fz ((spK1.one 40 xHead).one 41 xStock) f := rfl
@[go_sem] theorem spK2_fr (f : FuncId) : spK2.fr f = Pm.Spec.fr ((spK1.one 40 xHead).one 41 xStock) f := rfl
@[go_sem] theorem spK2_mu (t : TypeId) : spK2.mu t = Pm.Spec.mu ((spK1.one 40 xHead).one 41 xStock) t := rfl
theorem spK2_ok : SpecOk Tryd.prog spK2 := Spec.one_ok xStock_ok (Spec.one_ok xHead_ok spK1_ok)
theorem lWorks_c : PCalls Tryd.prog 21 [] (.bool true) := by
  have e1 : unI [.int .i64 15, .int .i64 18, .int .i64 21] = some [15, 18, 21] := rfl
  have e2 : unI [.int .i64 20, .int .i64 30, .int .i64 40, .int .i64 60] = some [20, 30, 40, 60] := rfl
  have e3 : rowF Pl.cs [⟨0, 3, 5⟩, ⟨1, 3, 6⟩, ⟨2, 3, 7⟩] = .sl [.int .i64 0, .int .i64 3, .int .i64 5, .int .i64 1, .int .i64 3, .int .i64 6, .int .i64 2, .int .i64 3, .int .i64 7] 3 true := rfl
  have e4 : unP [.int .i64 0, .int .i64 3, .int .i64 5, .int .i64 1, .int .i64 3, .int .i64 6, .int .i64 2, .int .i64 3, .int .i64 7] = some [⟨0, 3, 5⟩, ⟨1, 3, 6⟩, ⟨2, 3, 7⟩] := rfl
  have e5 : rowG ic [0, 86, 171, 257, 343, 429, 514] = .sl [.int .i64 0, .int .i64 86, .int .i64 171, .int .i64 257, .int .i64 343, .int .i64 429, .int .i64 514] 7 false := rfl
  have e6 : unI [.int .i64 0, .int .i64 86, .int .i64 171, .int .i64 257, .int .i64 343, .int .i64 429, .int .i64 514] = some [0, 86, 171, 257, 343, 429, 514] := rfl
  refine pcalls_by Tryd.mixes spK2_ok (fn := Tryd.f21) Tryd.func21 rfl (by kernel_rfl) (by show 0 ≤ _; decide) ?_
  simp (decide := true) (maxSteps := 4000000) only [go_sem, Nat.reduceAdd, Nat.reduceSub, Nat.reduceMul, Nat.reduceDiv, Nat.reduceMod, Nat.reduceLT, Nat.reduceLeDiff, Nat.reduceEqDiff, Nat.reduceBEq, Nat.reduceBNe, Nat.reduceGT, Int.reduceAdd, Int.reduceSub, Int.reduceMul, Int.reduceNeg, Int.reduceLT, Int.reduceLE, Int.reduceEq, Int.reduceNe, Int.reduceBEq, Int.reduceBNe, Int.reduceToNat, Int.reduceGT, Int.reduceGE, ↓reduceIte, decide_true, decide_false, eq_self, Nat.mul_one, Nat.zero_mul, Nat.one_mul, Int.le_refl, Nat.le_refl, Int.cast_ofNat_Int, Tryd.f21, e1, e2, exP, exC, exL, exB, exT, exD, e3, e4, e5, e6, List.length_cons, List.length_nil, Pr.tv, Pr.cs, Tn.tv, Tn.cs, Df.tv, Df.cs, Pl.cs]
noncomputable def xWorks : List TV → Option TV
  | [] => some (.bool true)
  | _ => none
theorem xWorks_ok : ∀ xs r, xWorks xs = some r → PCalls Tryd.prog 21 xs r := by
  intro xs r h
  unfold xWorks at h
  split at h
  · cases h; exact lWorks_c
  · cases h
attribute [go_sem] xWorks
noncomputable def spK3 : Pm.Spec := spK1.one 21 xWorks
@[go_sem] theorem spK3_p (f : FuncId) (xs : List TV) : spK3.p f xs = Pm.Spec.p (spK1.one 21 xWorks) f xs := rfl
@[go_sem] theorem spK3_h (f : FuncId) (ps : List PV) (hl : List PO) : spK3.h f ps hl = Pm.Spec.h (spK1.one 21 xWorks) f ps hl := rfl
@[go_sem] theorem spK3_fz (f : FuncId) : spK3.fz f = Pm.Spec.fz (spK1.one 21 xWorks) f := rfl
@[go_sem] theorem spK3_fr (f : FuncId) : spK3.fr f = Pm.Spec.fr (spK1.one 21 xWorks) f := rfl
@[go_sem] theorem spK3_mu (t : TypeId) : spK3.mu t = Pm.Spec.mu (spK1.one 21 xWorks) t := rfl
theorem spK3_ok : SpecOk Tryd.prog spK3 := Spec.one_ok xWorks_ok spK1_ok
end Go.Proofs.YtnoahnbjdapieaaDoor
