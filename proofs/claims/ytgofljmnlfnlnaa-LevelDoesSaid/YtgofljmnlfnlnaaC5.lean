/- What the claim leans on, text 5. -/
import Derived.Test.YtgofljmnlfnlnaaC4
set_option linter.unusedSimpArgs false
set_option linter.unusedVariables false

/- Part Lf. -/
namespace Go.Proofs.Ytgofljmnlfnlnaa
open Go.RowKit Go.Pm Go.Oc
set_option maxRecDepth 100000
set_option linter.unusedVariables false
set_option maxHeartbeats 4000000

def Tk.cs (T : Tk) : List TV := [.bool T.b0, .bool T.b1, .bool T.b2, .bool T.b3, .bool T.b4, .bool T.b5, .bool T.b6, .bool T.b7]
theorem tk_get (T : Tk) {i : Nat} (h : i < 8) : ([.t (.bool T.b0), .t (.bool T.b1), .t (.bool T.b2), .t (.bool T.b3), .t (.bool T.b4), .t (.bool T.b5), .t (.bool T.b6), .t (.bool T.b7)] : List PV)[i]? = some (.t (.bool (T.at i))) := by
  rcases lt8 h with rfl | rfl | rfl | rfl | rfl | rfl | rfl | rfl <;> rfl
theorem tk_set (T : Tk) {i : Nat} (h : i < 8) : List.take i ([.t (.bool T.b0), .t (.bool T.b1), .t (.bool T.b2), .t (.bool T.b3), .t (.bool T.b4), .t (.bool T.b5), .t (.bool T.b6), .t (.bool T.b7)] : List PV) ++ [.t (.bool true)] ++ List.drop i ([.t (.bool T.b1), .t (.bool T.b2), .t (.bool T.b3), .t (.bool T.b4), .t (.bool T.b5), .t (.bool T.b6), .t (.bool T.b7)] : List PV) = [.t (.bool (T.set i).b0), .t (.bool (T.set i).b1), .t (.bool (T.set i).b2), .t (.bool (T.set i).b3), .t (.bool (T.set i).b4), .t (.bool (T.set i).b5), .t (.bool (T.set i).b6), .t (.bool (T.set i).b7)] := by
  rcases lt8 h with rfl | rfl | rfl | rfl | rfl | rfl | rfl | rfl <;> simp [Tk.set]
theorem tk_ne {T : Tk} {i : Nat} (h : T.at i = true) : (!T.b0 && (!T.b1 && (!T.b2 && (!T.b3 && (!T.b4 && (!T.b5 && (!T.b6 && !T.b7))))))) = false := by
  have : i < 8 := by
    rcases Nat.lt_or_ge i 8 with h8 | h8
    · exact h8
    · unfold Tk.at at h; split at h <;> first | omega | cases h
  rcases lt8 this with rfl | rfl | rfl | rfl | rfl | rfl | rfl | rfl <;> simp only [Tk.at] at h <;> simp [h]
open Classical in
noncomputable def gC (v : Vial) (l : List Mk) (m : Nat) : List PV → List PO → Option (PV × List PO)
  | [.t (.agg [.bool b0, .bool b1, .bool b2, .bool b3, .bool b4, .bool b5, .bool b6, .bool b7]), .t (.int .i64 fr), .t (.int .i64 mm), .ptr 0 0, .ptr 1 0, .ptr 2 0, .ptr 3 0], [.box [.t o], .box a, .box vc, .box [.fnc 56 [0, 1, 2, 3]]] =>
    if mm = m ∧ (0 ≤ fr ∧ fr ≤ 8) ∧ a = [.t (.sl (l.flatMap Mk.als) l.length false)] ∧ vc = v.cs.map .t ∧ (0 < m ∨ ∃ i, i < l.length ∧ (Tk.mk b0 b1 b2 b3 b4 b5 b6 b7).at i = true) then
      some (.t (.bool (chooseS v l m ⟨b0, b1, b2, b3, b4, b5, b6, b7⟩ fr.toNat o).1), [.box [.t (chooseS v l m ⟨b0, b1, b2, b3, b4, b5, b6, b7⟩ fr.toNat o).2], .box a, .box vc, .box [.fnc 56 [0, 1, 2, 3]]])
    else none
  | _, _ => none
/-- The contract, as far as so many. -/
def ChooseC (v : Vial) (l : List Mk) (m : Nat) : Prop := ∀ (T : Tk) (fr : Nat) (o : TV), fr ≤ 8 → (0 < m ∨ ∃ i, i < l.length ∧ T.at i = true) →
  HCalls Try.prog 56 [.t (.agg (Tk.cs T)), .t (.int .i64 fr), .t (.int .i64 m), .ptr 0 0, .ptr 1 0, .ptr 2 0, .ptr 3 0] (getL [.box [.t o], .box [.t (.sl (l.flatMap Mk.als) l.length false)], .box (v.cs.map .t), .box [.fnc 56 [0, 1, 2, 3]]])
    (.t (.bool (chooseS v l m T fr o).1)) (getL [.box [.t (chooseS v l m T fr o).2], .box [.t (.sl (l.flatMap Mk.als) l.length false)], .box (v.cs.map .t), .box [.fnc 56 [0, 1, 2, 3]]])
theorem gC_ok {v : Vial} {l : List Mk} {m : Nat} (h : ChooseC v l m) : ∀ xs hl r hl', gC v l m xs hl = some (r, hl') → HCalls Try.prog 56 xs (getL hl) r (getL hl') := by
  intro xs hl r hl' hg
  unfold gC at hg
  split at hg
  · split at hg
    · rename_i b0 b1 b2 b3 b4 b5 b6 b7 fr mm o a vc hc
      obtain ⟨rfl, hf, rfl, rfl, ht⟩ := hc
      simp only [Option.some.injEq, Prod.mk.injEq] at hg
      obtain ⟨rfl, rfl⟩ := hg
      have := h ⟨b0, b1, b2, b3, b4, b5, b6, b7⟩ fr.toNat o (by omega) ht
      rw [Int.toNat_of_nonneg hf.1] at this
      exact this
    · cases hg
  · cases hg
theorem choose_zero (v : Vial) (l : List Mk) (hv : v.ok = true) (hm : mksOk l = true) (hl : l.length ≤ 8) : ChooseC v l 0 := by
  intro T fr o hf ht
  obtain ⟨i, hi, hti⟩ := ht.resolve_left (by omega)
  have hne := tk_ne hti
  have h00 : (((0 : Nat) : Int) == 0) = true := rfl
  refine hcalls_by Try.mixes spL5_ok (fn := Try.f56) Try.func56 rfl (by kernel_rfl) (by show 7 ≤ _; decide) ?_
  simp (decide := true) (maxSteps := 4000000) only [go_sem, Nat.reduceAdd, Nat.reduceSub, Nat.reduceMul, Nat.reduceDiv, Nat.reduceMod, Nat.reduceLT, Nat.reduceLeDiff, Nat.reduceEqDiff, Nat.reduceBEq, Nat.reduceBNe, Nat.reduceGT, Int.reduceAdd, Int.reduceSub, Int.reduceMul, Int.reduceNeg, Int.reduceLT, Int.reduceLE, Int.reduceEq, Int.reduceNe, Int.reduceBEq, Int.reduceBNe, Int.reduceToNat, Int.reduceGT, Int.reduceGE, ↓reduceIte, decide_true, decide_false, Try.f56, Tk.cs, Vial.cs, hne, h00]
  refine pwpC_loopQ (A := { k : Nat // k ≤ l.length }) (fun k => { env := [(28, .t (.int .i64 k.1)), (27, .t (.int .i64 l.length)), (26, .t (.sl (l.flatMap Mk.als) l.length false)), (11, .own ((sel l T k.1).flatMap Mk.als) (cntT T k.1) 5), (7, .ptr 4 0), (3, .ptr 0 0), (4, .ptr 1 0), (5, .ptr 2 0), (6, .ptr 3 0)], heap := [.box [.own (ints (idx T k.1)) (cntT T k.1) 6], .box [.t (.sl (l.flatMap Mk.als) l.length false)], .box (v.cs.map .t), .box [.fnc 56 [0, 1, 2, 3]], .box ((Tk.cs T).map .t), .tok (cntT T k.1) 82, .tok (cntT T k.1) 3] }) (fun k => l.length - k.1) ⟨0, by omega⟩ ?_ (fun k => by rfl) fun Q1 hQ1 ⟨k, hk⟩ I1 hI1 => ?_
  · simp (decide := true) (maxSteps := 4000000) only [go_sem, Nat.reduceAdd, Nat.reduceSub, Nat.reduceMul, Nat.reduceDiv, Nat.reduceMod, Nat.reduceLT, Nat.reduceLeDiff, Nat.reduceEqDiff, Nat.reduceBEq, Nat.reduceBNe, Nat.reduceGT, Int.reduceAdd, Int.reduceSub, Int.reduceMul, Int.reduceNeg, Int.reduceLT, Int.reduceLE, Int.reduceEq, Int.reduceNe, Int.reduceBEq, Int.reduceBNe, Int.reduceToNat, Int.reduceGT, Int.reduceGE, ↓reduceIte, decide_true, decide_false, Vial.cs, Tk.cs]
    simp [sel, idx, ints, cntT]
  · by_cases hlt : (k : Int) < l.length
    · obtain ⟨x, hx⟩ := get_lt hlt
      have hd := flat_at Mk.als (n := 1) (fun _ => rfl) hx
      have hc1 : IntKind.i64.wrap (k + 1) = ((k + 1 : Nat) : Int) := by rw [wrap_in (by omega) (by omega)]; omega
      have hd1 : l.length - (k + 1) < l.length - k := by omega
      have hk8 : (k : Int) < ((8 : Nat) : Int) := by omega
      have hk8' : (k : Int) < 8 := by omega
      rw [Nat.mul_one] at hd
      have hg := tk_get T (i := k) (by omega)
      cases ht : T.at k with
      | false =>
        rw [ht] at hg
        simp (decide := true) (maxSteps := 4000000) only [go_sem, Nat.reduceAdd, Nat.reduceSub, Nat.reduceMul, Nat.reduceDiv, Nat.reduceMod, Nat.reduceLT, Nat.reduceLeDiff, Nat.reduceEqDiff, Nat.reduceBEq, Nat.reduceBNe, Nat.reduceGT, Int.reduceAdd, Int.reduceSub, Int.reduceMul, Int.reduceNeg, Int.reduceLT, Int.reduceLE, Int.reduceEq, Int.reduceNe, Int.reduceBEq, Int.reduceBNe, Int.reduceToNat, Int.reduceGT, Int.reduceGE, ↓reduceIte, decide_true, decide_false, eq_self, Nat.mul_one, Nat.zero_mul, Nat.one_mul, Int.le_refl, Nat.le_refl, Int.cast_ofNat_Int, hlt, hd, Mk.als, Mk.al, Vial.cs, Tk.cs, hk8, hk8', hg]
        refine hI1 _ ⟨k + 1, by omega⟩ (by simp only; omega) ?_
        simp (decide := true) (maxSteps := 4000000) only [go_sem, Nat.reduceAdd, Nat.reduceSub, Nat.reduceMul, Nat.reduceDiv, Nat.reduceMod, Nat.reduceLT, Nat.reduceLeDiff, Nat.reduceEqDiff, Nat.reduceBEq, Nat.reduceBNe, Nat.reduceGT, Int.reduceAdd, Int.reduceSub, Int.reduceMul, Int.reduceNeg, Int.reduceLT, Int.reduceLE, Int.reduceEq, Int.reduceNe, Int.reduceBEq, Int.reduceBNe, Int.reduceToNat, Int.reduceGT, Int.reduceGE, ↓reduceIte, decide_true, decide_false, hc1, hd1, Vial.cs, Tk.cs, sel_f ht, idx_f ht, cnt_f ht]
      | true =>
        rw [ht] at hg
        have hcl := cnt_le T k
        have hr1 : (cntT T k + 1) * 16 ≤ 140737488355328 := by omega
        have hr2 : (cntT T k + 1) * 8 ≤ 140737488355328 := by omega
        have e1 : (List.flatMap Mk.als (sel l T k)).length = cntT T k * 1 := by rw [flat_len Mk.als (n := 1) (fun _ => rfl), sel_len (by omega)]
        have e2 : (ints (idx T k)).length = cntT T k * 1 := by rw [ints_len, idx_len, Nat.mul_one]
        rw [Nat.mul_one] at e1 e2
        simp (decide := true) (maxSteps := 4000000) only [go_sem, Nat.reduceAdd, Nat.reduceSub, Nat.reduceMul, Nat.reduceDiv, Nat.reduceMod, Nat.reduceLT, Nat.reduceLeDiff, Nat.reduceEqDiff, Nat.reduceBEq, Nat.reduceBNe, Nat.reduceGT, Int.reduceAdd, Int.reduceSub, Int.reduceMul, Int.reduceNeg, Int.reduceLT, Int.reduceLE, Int.reduceEq, Int.reduceNe, Int.reduceBEq, Int.reduceBNe, Int.reduceToNat, Int.reduceGT, Int.reduceGE, ↓reduceIte, decide_true, decide_false, eq_self, Nat.mul_one, Nat.zero_mul, Nat.one_mul, Int.le_refl, Nat.le_refl, Int.cast_ofNat_Int, hlt, hd, Mk.als, Mk.al, Vial.cs, Tk.cs, hk8, hk8', hg, hr1, hr2, e1, e2]
        refine hI1 _ ⟨k + 1, by omega⟩ (by simp only; omega) ?_
        simp (decide := true) (maxSteps := 4000000) only [go_sem, Nat.reduceAdd, Nat.reduceSub, Nat.reduceMul, Nat.reduceDiv, Nat.reduceMod, Nat.reduceLT, Nat.reduceLeDiff, Nat.reduceEqDiff, Nat.reduceBEq, Nat.reduceBNe, Nat.reduceGT, Int.reduceAdd, Int.reduceSub, Int.reduceMul, Int.reduceNeg, Int.reduceLT, Int.reduceLE, Int.reduceEq, Int.reduceNe, Int.reduceBEq, Int.reduceBNe, Int.reduceToNat, Int.reduceGT, Int.reduceGE, ↓reduceIte, decide_true, decide_false, eq_self, Nat.mul_one, Nat.zero_mul, Nat.one_mul, Int.le_refl, Nat.le_refl, Int.cast_ofNat_Int, hc1, hd1, Vial.cs, Tk.cs, sel_t ht hx, idx_t ht, cnt_t ht, List.flatMap_append, Mk.als, Mk.al, ints_snoc]
    · have hkl : k = l.length := by omega
      subst hkl
      have hcp := cnt_pos hi hti
      have hcn : ¬ cntT T l.length = 0 := by omega
      have hsl := sel_len (l := l) (T := T) (k := l.length) (Nat.le_refl _)
      have hcl := cnt_le T l.length
      have c1 : 1 ≤ (sel l T l.length).length := by omega
      have c2 : (sel l T l.length).length ≤ 100 := by omega
      have c3 := sel_ok (T := T) (k := l.length) hm
      simp (decide := true) (maxSteps := 4000000) only [go_sem, Nat.reduceAdd, Nat.reduceSub, Nat.reduceMul, Nat.reduceDiv, Nat.reduceMod, Nat.reduceLT, Nat.reduceLeDiff, Nat.reduceEqDiff, Nat.reduceBEq, Nat.reduceBNe, Nat.reduceGT, Int.reduceAdd, Int.reduceSub, Int.reduceMul, Int.reduceNeg, Int.reduceLT, Int.reduceLE, Int.reduceEq, Int.reduceNe, Int.reduceBEq, Int.reduceBNe, Int.reduceToNat, Int.reduceGT, Int.reduceGE, ↓reduceIte, decide_true, decide_false, hlt]
      refine hQ1 _ _ ?_
      rw [hsl] at c1 c2
      simp (decide := true) (maxSteps := 4000000) only [go_sem, Nat.reduceAdd, Nat.reduceSub, Nat.reduceMul, Nat.reduceDiv, Nat.reduceMod, Nat.reduceLT, Nat.reduceLeDiff, Nat.reduceEqDiff, Nat.reduceBEq, Nat.reduceBNe, Nat.reduceGT, Int.reduceAdd, Int.reduceSub, Int.reduceMul, Int.reduceNeg, Int.reduceLT, Int.reduceLE, Int.reduceEq, Int.reduceNe, Int.reduceBEq, Int.reduceBNe, Int.reduceToNat, Int.reduceGT, Int.reduceGE, ↓reduceIte, decide_true, decide_false, eq_self, Nat.mul_one, Nat.zero_mul, Nat.one_mul, Int.le_refl, Nat.le_refl, Int.cast_ofNat_Int, hcn, hv, c1, c2, c3, hsl, Vial.cs, Tk.cs, TZ.t, Span.t, Span.cs, chooseS, leafO, idx_len]
      exact ⟨_, rfl, rfl⟩
theorem choose_succ (v : Vial) (l : List Mk) (hv : v.ok = true) (hm : mksOk l = true) (hl : l.length ≤ 8) {m : Nat} (ih : ChooseC v l m) (hm8 : m ≤ 8) : ChooseC v l (m + 1) := by
  intro T fr o hf _
  have hm1 : (((m + 1 : Nat) : Int) == 0) = false := by simp; omega
  have hm2 : ((m + 1 : Nat) : Int) > 0 := by omega
  have hm3 : IntKind.i64.wrap (((m + 1 : Nat) : Int) - 1) = (m : Int) := by rw [wrap_in (by omega) (by omega)]; omega
  refine hcalls_by Try.mixes (Spec.oneH_ok (gC_ok ih) spL5_ok) (fn := Try.f56) Try.func56 rfl (by kernel_rfl) (by show 7 ≤ _; decide) ?_
  simp (decide := true) (maxSteps := 4000000) only [go_sem, Nat.reduceAdd, Nat.reduceSub, Nat.reduceMul, Nat.reduceDiv, Nat.reduceMod, Nat.reduceLT, Nat.reduceLeDiff, Nat.reduceEqDiff, Nat.reduceBEq, Nat.reduceBNe, Nat.reduceGT, Int.reduceAdd, Int.reduceSub, Int.reduceMul, Int.reduceNeg, Int.reduceLT, Int.reduceLE, Int.reduceEq, Int.reduceNe, Int.reduceBEq, Int.reduceBNe, Int.reduceToNat, Int.reduceGT, Int.reduceGE, ↓reduceIte, decide_true, decide_false, Try.f56, Tk.cs, Vial.cs, hm1]
  refine pwpC_loopQ (A := { j : Nat // fr + j ≤ 8 ∧ (l.length < fr + j → j = 0) ∧ (chooseTo v l m T fr o j).1 = false }) (fun j => { env := [(17, .t (.int .i64 ((fr + j.1 : Nat) : Int))), (2, .t (.int .i64 ((m + 1 : Nat) : Int))), (7, .ptr 4 0), (3, .ptr 0 0), (4, .ptr 1 0), (5, .ptr 2 0), (6, .ptr 3 0)], heap := [.box [.t (chooseTo v l m T fr o j.1).2], .box [.t (.sl (l.flatMap Mk.als) l.length false)], .box (v.cs.map .t), .box [.fnc 56 [0, 1, 2, 3]], .box ((Tk.cs T).map .t)] }) (fun j => l.length - (fr + j.1)) ⟨0, by omega, by omega, rfl⟩ ?_ (fun k => by rfl) fun Q1 hQ1 ⟨j, hj8, hj0, hjf⟩ I1 hI1 => ?_
  · simp (decide := true) (maxSteps := 4000000) only [go_sem, Nat.reduceAdd, Nat.reduceSub, Nat.reduceMul, Nat.reduceDiv, Nat.reduceMod, Nat.reduceLT, Nat.reduceLeDiff, Nat.reduceEqDiff, Nat.reduceBEq, Nat.reduceBNe, Nat.reduceGT, Int.reduceAdd, Int.reduceSub, Int.reduceMul, Int.reduceNeg, Int.reduceLT, Int.reduceLE, Int.reduceEq, Int.reduceNe, Int.reduceBEq, Int.reduceBNe, Int.reduceToNat, Int.reduceGT, Int.reduceGE, ↓reduceIte, decide_true, decide_false, Vial.cs, Tk.cs, chooseTo, List.range']
  · by_cases hlt : ((fr + j : Nat) : Int) < l.length
    · have hj7 : fr + j < 8 := by omega
      have hc1 : IntKind.i64.wrap (((fr + j : Nat) : Int) + 1) = ((fr + j + 1 : Nat) : Int) := by rw [wrap_in (by omega) (by omega)]; omega
      have hk8 : ((fr + j : Nat) : Int) < ((8 : Nat) : Int) := by omega
      have hk8' : ((fr + j : Nat) : Int) < 8 := by omega
      have hk9 : ((fr + j + 1 : Nat) : Int) ≤ 8 := by omega
      have hset := tk_set T hj7
      have hj77 : fr + j ≤ 7 := by omega
      have hT : 0 < m ∨ ∃ i, i < l.length ∧ Tk.at ⟨(T.set (fr + j)).b0, (T.set (fr + j)).b1, (T.set (fr + j)).b2, (T.set (fr + j)).b3, (T.set (fr + j)).b4, (T.set (fr + j)).b5, (T.set (fr + j)).b6, (T.set (fr + j)).b7⟩ i = true := by
        refine .inr ⟨fr + j, by omega, ?_⟩
        have := Tk.at_set T hj7 (fr + j)
        simp only [beq_self_eq_true, Bool.or_true] at this
        exact this
      have hnx := chooseTo_succ (v := v) (l := l) (m := m) (T := T) (fr := fr) (o := o) hjf
      have hfold : chooseS v l (m + 1) T fr o = chooseTo v l m T fr o (l.length - fr) := chooseS_succ ..
      cases hb : (chooseS v l m (T.set (fr + j)) (fr + j + 1) (chooseTo v l m T fr o j).2).1 with
      | true =>
        have hb2 : (chooseTo v l m T fr o (j + 1)).1 = true := by rw [hnx]; exact hb
        have hst := chooseTo_stop hb2 (l.length - fr - (j + 1))
        rw [show j + 1 + (l.length - fr - (j + 1)) = l.length - fr by omega] at hst
        rw [hst, hnx] at hfold
        simp (decide := true) (maxSteps := 4000000) only [go_sem, Nat.reduceAdd, Nat.reduceSub, Nat.reduceMul, Nat.reduceDiv, Nat.reduceMod, Nat.reduceLT, Nat.reduceLeDiff, Nat.reduceEqDiff, Nat.reduceBEq, Nat.reduceBNe, Nat.reduceGT, Int.reduceAdd, Int.reduceSub, Int.reduceMul, Int.reduceNeg, Int.reduceLT, Int.reduceLE, Int.reduceEq, Int.reduceNe, Int.reduceBEq, Int.reduceBNe, Int.reduceToNat, Int.reduceGT, Int.reduceGE, ↓reduceIte, decide_true, decide_false, eq_self, Nat.mul_one, Nat.zero_mul, Nat.one_mul, Int.le_refl, Nat.le_refl, Int.cast_ofNat_Int, hlt, hm2, hm3, Vial.cs, Tk.cs, hc1, hk8, hk8', hk9, hset, hj77, hT, gC, hb]
        refine hQ1 _ _ ?_
        simp (decide := true) (maxSteps := 4000000) only [go_sem, Nat.reduceAdd, Nat.reduceSub, Nat.reduceMul, Nat.reduceDiv, Nat.reduceMod, Nat.reduceLT, Nat.reduceLeDiff, Nat.reduceEqDiff, Nat.reduceBEq, Nat.reduceBNe, Nat.reduceGT, Int.reduceAdd, Int.reduceSub, Int.reduceMul, Int.reduceNeg, Int.reduceLT, Int.reduceLE, Int.reduceEq, Int.reduceNe, Int.reduceBEq, Int.reduceBNe, Int.reduceToNat, Int.reduceGT, Int.reduceGE, ↓reduceIte, decide_true, decide_false, eq_self, Nat.mul_one, Nat.zero_mul, Nat.one_mul, Int.le_refl, Nat.le_refl, Int.cast_ofNat_Int, hfold, hb, Vial.cs]
        exact ⟨_, rfl, rfl⟩
      | false =>
        simp (decide := true) (maxSteps := 4000000) only [go_sem, Nat.reduceAdd, Nat.reduceSub, Nat.reduceMul, Nat.reduceDiv, Nat.reduceMod, Nat.reduceLT, Nat.reduceLeDiff, Nat.reduceEqDiff, Nat.reduceBEq, Nat.reduceBNe, Nat.reduceGT, Int.reduceAdd, Int.reduceSub, Int.reduceMul, Int.reduceNeg, Int.reduceLT, Int.reduceLE, Int.reduceEq, Int.reduceNe, Int.reduceBEq, Int.reduceBNe, Int.reduceToNat, Int.reduceGT, Int.reduceGE, ↓reduceIte, decide_true, decide_false, eq_self, Nat.mul_one, Nat.zero_mul, Nat.one_mul, Int.le_refl, Nat.le_refl, Int.cast_ofNat_Int, hlt, hm2, hm3, Vial.cs, Tk.cs, hc1, hk8, hk8', hk9, hset, hj77, hT, gC, hb]
        refine hI1 _ ⟨j + 1, by omega, by omega, by rw [hnx]; exact hb⟩ (by simp only; omega) ?_
        simp (decide := true) (maxSteps := 4000000) only [go_sem, Nat.reduceAdd, Nat.reduceSub, Nat.reduceMul, Nat.reduceDiv, Nat.reduceMod, Nat.reduceLT, Nat.reduceLeDiff, Nat.reduceEqDiff, Nat.reduceBEq, Nat.reduceBNe, Nat.reduceGT, Int.reduceAdd, Int.reduceSub, Int.reduceMul, Int.reduceNeg, Int.reduceLT, Int.reduceLE, Int.reduceEq, Int.reduceNe, Int.reduceBEq, Int.reduceBNe, Int.reduceToNat, Int.reduceGT, Int.reduceGE, ↓reduceIte, decide_true, decide_false, eq_self, Nat.mul_one, Nat.zero_mul, Nat.one_mul, Int.le_refl, Nat.le_refl, Int.cast_ofNat_Int, hc1, Vial.cs, Tk.cs, hnx]
        rw [Nat.add_assoc]
    · simp (decide := true) (maxSteps := 4000000) only [go_sem, Nat.reduceAdd, Nat.reduceSub, Nat.reduceMul, Nat.reduceDiv, Nat.reduceMod, Nat.reduceLT, Nat.reduceLeDiff, Nat.reduceEqDiff, Nat.reduceBEq, Nat.reduceBNe, Nat.reduceGT, Int.reduceAdd, Int.reduceSub, Int.reduceMul, Int.reduceNeg, Int.reduceLT, Int.reduceLE, Int.reduceEq, Int.reduceNe, Int.reduceBEq, Int.reduceBNe, Int.reduceToNat, Int.reduceGT, Int.reduceGE, ↓reduceIte, decide_true, decide_false, eq_self, Nat.mul_one, Nat.zero_mul, Nat.one_mul, Int.le_refl, Nat.le_refl, Int.cast_ofNat_Int, hlt, hm2]
      refine hQ1 _ _ ?_
      have hfold : chooseS v l (m + 1) T fr o = chooseTo v l m T fr o (l.length - fr) := chooseS_succ ..
      have hje : j = l.length - fr := by omega
      rw [← hje] at hfold
      simp (decide := true) (maxSteps := 4000000) only [go_sem, Nat.reduceAdd, Nat.reduceSub, Nat.reduceMul, Nat.reduceDiv, Nat.reduceMod, Nat.reduceLT, Nat.reduceLeDiff, Nat.reduceEqDiff, Nat.reduceBEq, Nat.reduceBNe, Nat.reduceGT, Int.reduceAdd, Int.reduceSub, Int.reduceMul, Int.reduceNeg, Int.reduceLT, Int.reduceLE, Int.reduceEq, Int.reduceNe, Int.reduceBEq, Int.reduceBNe, Int.reduceToNat, Int.reduceGT, Int.reduceGE, ↓reduceIte, decide_true, decide_false, eq_self, Nat.mul_one, Nat.zero_mul, Nat.one_mul, Int.le_refl, Nat.le_refl, Int.cast_ofNat_Int, hfold, hjf, Vial.cs]
      exact ⟨_, rfl, rfl⟩
theorem choose_all (v : Vial) (l : List Mk) (hv : v.ok = true) (hm : mksOk l = true) (hl : l.length ≤ 8) : ∀ m, m ≤ 8 → ChooseC v l m
  | 0, _ => choose_zero v l hv hm hl
  | m + 1, h => choose_succ v l hv hm hl (choose_all v l hv hm hl m (by omega)) (by omega)
noncomputable def gA (v : Vial) (l : List Mk) : List PV → List PO → Option (PV × List PO)
  | [t, fr, .t (.int .i64 mm), a, b, c, d], hl => if mm.toNat ≤ 8 then gC v l mm.toNat [t, fr, .t (.int .i64 mm), a, b, c, d] hl else none
  | _, _ => none
theorem gA_ok {v : Vial} {l : List Mk} (h : ∀ m, m ≤ 8 → ChooseC v l m) : ∀ xs hl r hl', gA v l xs hl = some (r, hl') → HCalls Try.prog 56 xs (getL hl) r (getL hl') := by
  intro xs hl r hl' hg
  unfold gA at hg
  split at hg
  · split at hg
    · rename_i hc; exact gC_ok (h _ hc) _ _ _ _ hg
    · cases hg
  · cases hg
theorem lFalse_c (v : Vial) {l : List Rd} {s : TV} (hs : IsRow Rd.cs s l) (hl : l.length ≤ 5864062014806) : PCalls Try.prog 23 [v.t, s] (.tup [(falseP v l).1, .int .i64 (falseP v l).2]) := by
  unfold falseP
  by_cases hk : asked v l = 0
  · obtain ⟨hv, hr⟩ := asked_zero hk
    have hm := mksOk_mid hv hr
    have h8 := rdsOk_len hr
    have h100 : l.length ≤ 100 := by omega
    have ho := openedT_yes hk
    have hml : (l.map mid).length = l.length := List.length_map _
    have hca := choose_all v (l.map mid) hv hm (by omega)
    refine pcalls_by Try.mixes (Spec.oneH_ok (gA_ok hca) spL5_ok) (fn := Try.f23) Try.func23 rfl (by kernel_rfl) (by show 2 ≤ _; decide) ?_
    obtain ⟨full, rfl⟩ := hs.ne h8.1
    cases hi : (tilts v (l.map mid)).is with
    | true => simp (decide := true) (maxSteps := 4000000) only [go_sem, Nat.reduceAdd, Nat.reduceSub, Nat.reduceMul, Nat.reduceDiv, Nat.reduceMod, Nat.reduceLT, Nat.reduceLeDiff, Nat.reduceEqDiff, Nat.reduceBEq, Nat.reduceBNe, Nat.reduceGT, Int.reduceAdd, Int.reduceSub, Int.reduceMul, Int.reduceNeg, Int.reduceLT, Int.reduceLE, Int.reduceEq, Int.reduceNe, Int.reduceBEq, Int.reduceBNe, Int.reduceToNat, Int.reduceGT, Int.reduceGE, ↓reduceIte, decide_true, decide_false, Try.f23, Vial.t, Vial.cs, hk, hl, ho, hv, h8.1, h8.2, h100, hm, List.length_map, TZ.t, Span.t, Span.cs, hi]
    | false =>
      simp (decide := true) (maxSteps := 4000000) only [go_sem, Nat.reduceAdd, Nat.reduceSub, Nat.reduceMul, Nat.reduceDiv, Nat.reduceMod, Nat.reduceLT, Nat.reduceLeDiff, Nat.reduceEqDiff, Nat.reduceBEq, Nat.reduceBNe, Nat.reduceGT, Int.reduceAdd, Int.reduceSub, Int.reduceMul, Int.reduceNeg, Int.reduceLT, Int.reduceLE, Int.reduceEq, Int.reduceNe, Int.reduceBEq, Int.reduceBNe, Int.reduceToNat, Int.reduceGT, Int.reduceGE, ↓reduceIte, decide_true, decide_false, Try.f23, Vial.t, Vial.cs, hk, hl, ho, hv, h8.1, h8.2, h100, hm, List.length_map, TZ.t, Span.t, Span.cs, hi]
      refine pwpC_loopQ (A := { k : Nat // k ≤ l.length ∧ (falseTo v (l.map mid) k).1 = false }) (fun k => { env := [(36, .t (.int .i64 k.1)), (35, .t (.int .i64 l.length)), (13, .ptr 6 0), (12, .ptr 5 0)], heap := [.box (v.cs.map .t), .box (v.cs.map .t), .box [.t (.sl ((l.map mid).flatMap Mk.als) l.length false)], .box ((tilts v (l.map mid)).tilt.cs.map .t), .box ((tilts v (l.map mid)).zero.cs.map .t), .box [.t (falseTo v (l.map mid) k.1).2], .box [.fnc 56 [5, 2, 1, 6]]] }) (fun k => l.length - k.1) ⟨0, by omega, rfl⟩ ?_ (fun k => by rfl) fun Q1 hQ1 ⟨k, hk1, hkf⟩ I1 hI1 => ?_
      · simp (decide := true) (maxSteps := 4000000) only [go_sem, Nat.reduceAdd, Nat.reduceSub, Nat.reduceMul, Nat.reduceDiv, Nat.reduceMod, Nat.reduceLT, Nat.reduceLeDiff, Nat.reduceEqDiff, Nat.reduceBEq, Nat.reduceBNe, Nat.reduceGT, Int.reduceAdd, Int.reduceSub, Int.reduceMul, Int.reduceNeg, Int.reduceLT, Int.reduceLE, Int.reduceEq, Int.reduceNe, Int.reduceBEq, Int.reduceBNe, Int.reduceToNat, Int.reduceGT, Int.reduceGE, ↓reduceIte, decide_true, decide_false, Vial.cs, Span.cs, falseTo]
      · by_cases hlt : (k : Int) < l.length
        · have hc1 : IntKind.i64.wrap (k + 1) = ((k + 1 : Nat) : Int) := by rw [wrap_in (by omega) (by omega)]; omega
          have hk8 : k + 1 ≤ 8 := by omega
          have hk7 : k ≤ 7 := by omega
          have hT : 0 < k + 1 ∨ ∃ i, i < (l.map mid).length ∧ Tk.at ⟨false, false, false, false, false, false, false, false⟩ i = true := .inl (by omega)
          have hT' : 0 < k + 1 ∨ ∃ i, i < l.length ∧ Tk.at ⟨false, false, false, false, false, false, false, false⟩ i = true := .inl (by omega)
          have hnx := falseTo_next hkf
          unfold Tk.none at hnx
          cases hb : (chooseS v (l.map mid) (k + 1) ⟨false, false, false, false, false, false, false, false⟩ 0 (falseTo v (l.map mid) k).2).1 with
          | true =>
            have hst := falseTo_stop (d := l.length - (k + 1)) (by rw [hnx]; exact hb)
            rw [show k + 1 + (l.length - (k + 1)) = l.length by omega, hnx] at hst
            simp (decide := true) (maxSteps := 4000000) only [go_sem, Nat.reduceAdd, Nat.reduceSub, Nat.reduceMul, Nat.reduceDiv, Nat.reduceMod, Nat.reduceLT, Nat.reduceLeDiff, Nat.reduceEqDiff, Nat.reduceBEq, Nat.reduceBNe, Nat.reduceGT, Int.reduceAdd, Int.reduceSub, Int.reduceMul, Int.reduceNeg, Int.reduceLT, Int.reduceLE, Int.reduceEq, Int.reduceNe, Int.reduceBEq, Int.reduceBNe, Int.reduceToNat, Int.reduceGT, Int.reduceGE, ↓reduceIte, decide_true, decide_false, eq_self, Nat.mul_one, Nat.zero_mul, Nat.one_mul, Int.le_refl, Nat.le_refl, Int.cast_ofNat_Int, hlt, hc1, hk8, hk7, Vial.cs, Span.cs, gA, gC, hT, hT', hb, List.length_map]
            refine hQ1 _ _ ?_
            simp (decide := true) (maxSteps := 4000000) only [go_sem, Nat.reduceAdd, Nat.reduceSub, Nat.reduceMul, Nat.reduceDiv, Nat.reduceMod, Nat.reduceLT, Nat.reduceLeDiff, Nat.reduceEqDiff, Nat.reduceBEq, Nat.reduceBNe, Nat.reduceGT, Int.reduceAdd, Int.reduceSub, Int.reduceMul, Int.reduceNeg, Int.reduceLT, Int.reduceLE, Int.reduceEq, Int.reduceNe, Int.reduceBEq, Int.reduceBNe, Int.reduceToNat, Int.reduceGT, Int.reduceGE, ↓reduceIte, decide_true, decide_false, eq_self, Nat.mul_one, Nat.zero_mul, Nat.one_mul, Int.le_refl, Nat.le_refl, Int.cast_ofNat_Int, hst, Vial.cs]
          | false =>
            simp (decide := true) (maxSteps := 4000000) only [go_sem, Nat.reduceAdd, Nat.reduceSub, Nat.reduceMul, Nat.reduceDiv, Nat.reduceMod, Nat.reduceLT, Nat.reduceLeDiff, Nat.reduceEqDiff, Nat.reduceBEq, Nat.reduceBNe, Nat.reduceGT, Int.reduceAdd, Int.reduceSub, Int.reduceMul, Int.reduceNeg, Int.reduceLT, Int.reduceLE, Int.reduceEq, Int.reduceNe, Int.reduceBEq, Int.reduceBNe, Int.reduceToNat, Int.reduceGT, Int.reduceGE, ↓reduceIte, decide_true, decide_false, eq_self, Nat.mul_one, Nat.zero_mul, Nat.one_mul, Int.le_refl, Nat.le_refl, Int.cast_ofNat_Int, hlt, hc1, hk8, hk7, Vial.cs, Span.cs, gA, gC, hT, hT', hb, List.length_map]
            refine hI1 _ ⟨k + 1, by omega, by rw [hnx]; exact hb⟩ (by simp only; omega) ?_
            simp (decide := true) (maxSteps := 4000000) only [go_sem, Nat.reduceAdd, Nat.reduceSub, Nat.reduceMul, Nat.reduceDiv, Nat.reduceMod, Nat.reduceLT, Nat.reduceLeDiff, Nat.reduceEqDiff, Nat.reduceBEq, Nat.reduceBNe, Nat.reduceGT, Int.reduceAdd, Int.reduceSub, Int.reduceMul, Int.reduceNeg, Int.reduceLT, Int.reduceLE, Int.reduceEq, Int.reduceNe, Int.reduceBEq, Int.reduceBNe, Int.reduceToNat, Int.reduceGT, Int.reduceGE, ↓reduceIte, decide_true, decide_false, eq_self, Nat.mul_one, Nat.zero_mul, Nat.one_mul, Int.le_refl, Nat.le_refl, Int.cast_ofNat_Int, hc1, Vial.cs, Span.cs, hnx, List.length_map]
        · have hkl : k = l.length := by omega
          subst hkl
          simp (decide := true) (maxSteps := 4000000) only [go_sem, Nat.reduceAdd, Nat.reduceSub, Nat.reduceMul, Nat.reduceDiv, Nat.reduceMod, Nat.reduceLT, Nat.reduceLeDiff, Nat.reduceEqDiff, Nat.reduceBEq, Nat.reduceBNe, Nat.reduceGT, Int.reduceAdd, Int.reduceSub, Int.reduceMul, Int.reduceNeg, Int.reduceLT, Int.reduceLE, Int.reduceEq, Int.reduceNe, Int.reduceBEq, Int.reduceBNe, Int.reduceToNat, Int.reduceGT, Int.reduceGE, ↓reduceIte, decide_true, decide_false, eq_self, Nat.mul_one, Nat.zero_mul, Nat.one_mul, Int.le_refl, Nat.le_refl, Int.cast_ofNat_Int, hlt]
          refine hQ1 _ _ ?_
          simp (decide := true) (maxSteps := 4000000) only [go_sem, Nat.reduceAdd, Nat.reduceSub, Nat.reduceMul, Nat.reduceDiv, Nat.reduceMod, Nat.reduceLT, Nat.reduceLeDiff, Nat.reduceEqDiff, Nat.reduceBEq, Nat.reduceBNe, Nat.reduceGT, Int.reduceAdd, Int.reduceSub, Int.reduceMul, Int.reduceNeg, Int.reduceLT, Int.reduceLE, Int.reduceEq, Int.reduceNe, Int.reduceBEq, Int.reduceBNe, Int.reduceToNat, Int.reduceGT, Int.reduceGE, ↓reduceIte, decide_true, decide_false, eq_self, Nat.mul_one, Nat.zero_mul, Nat.one_mul, Int.le_refl, Nat.le_refl, Int.cast_ofNat_Int, Vial.cs]
  · refine pcalls_by Try.mixes spL5_ok (fn := Try.f23) Try.func23 rfl (by kernel_rfl) (by show 2 ≤ _; decide) ?_
    obtain ⟨u, ho⟩ := openedT_no hk
    have hk' : (asked v l != 0) = true := by simpa using hk
    rcases hs with ⟨rfl, rfl⟩ | ⟨full, rfl⟩ <;> simp (decide := true) (maxSteps := 4000000) only [go_sem, Nat.reduceAdd, Nat.reduceSub, Nat.reduceMul, Nat.reduceDiv, Nat.reduceMod, Nat.reduceLT, Nat.reduceLeDiff, Nat.reduceEqDiff, Nat.reduceBEq, Nat.reduceBNe, Nat.reduceGT, Int.reduceAdd, Int.reduceSub, Int.reduceMul, Int.reduceNeg, Int.reduceLT, Int.reduceLE, Int.reduceEq, Int.reduceNe, Int.reduceBEq, Int.reduceBNe, Int.reduceToNat, Int.reduceGT, Int.reduceGE, ↓reduceIte, decide_true, decide_false, Try.f23, Vial.t, Vial.cs, unRds, hl, ho, hk, hk']
end Go.Proofs.Ytgofljmnlfnlnaa

/- Part Lh. -/
namespace Go.Oc
open Go Go.Pm
/-- A vial that is offered. -/
structure Of where
  v : Vial
  i : Int
  p : Int
  deriving DecidableEq
def Of.cs (x : Of) : List TV := [.int .i64 x.v.marks, .int .i64 x.v.l0, .int .i64 x.v.l1, .int .i64 x.v.v0, .int .i64 x.v.v1, .int .i64 x.v.z0, .int .i64 x.v.z1, .int .i64 x.v.wr, .int .i64 x.i, .int .i64 x.p]
def unOfs : List TV → Option (List Of)
  | [] => some []
  | .int .i64 a :: .int .i64 b :: .int .i64 c :: .int .i64 d :: .int .i64 e :: .int .i64 f :: .int .i64 g :: .int .i64 h :: .int .i64 i :: .int .i64 p :: r => (unOfs r).map (⟨⟨a, b, c, d, e, f, g, h⟩, i, p⟩ :: ·)
  | _ => none
theorem unOfs_eq : ∀ l : List Of, unOfs (l.flatMap Of.cs) = some l
  | [] => rfl
  | x :: l => by simp [Of.cs, unOfs, unOfs_eq l]
theorem unOfs_some : ∀ {cs : List TV} {l : List Of}, unOfs cs = some l → cs = l.flatMap Of.cs := by
  intro cs
  induction cs using unOfs.induct with
  | case1 => intro l h; simp [unOfs] at h; subst h; rfl
  | case2 a b c d e f g h i p r ih =>
    intro l hh
    simp only [unOfs, Option.map_eq_some_iff] at hh
    obtain ⟨l', h1, rfl⟩ := hh
    rw [ih h1]; rfl
  | case3 r h1 h2 =>
    intro l h
    unfold unOfs at h
    split at h
    · exact absurd rfl h1
    · exact absurd rfl (h2 _ _ _ _ _ _ _ _ _ _ _)
    · cases h
attribute [go_sem] unOfs_eq
def bestStep (b : Option Of) (x : Of) : Option Of := match b with | none => some x | some y => if x.p < y.p then some x else some y
def bestTo (l : List Of) (k : Nat) : Option Of := (l.take k).foldl bestStep none
def bestOf (l : List Of) : Option Of := l.foldl bestStep none
def Of.zero : Of := ⟨⟨0, 0, 0, 0, 0, 0, 0, 0⟩, 0, 0⟩
theorem bestTo_succ {l : List Of} {k : Nat} {x : Of} (h : l[k]? = some x) : bestTo l (k + 1) = bestStep (bestTo l k) x := by
  unfold bestTo; rw [take_snoc h, List.foldl_append]; rfl
theorem bestTo_some {l : List Of} : ∀ {k : Nat}, 0 < k → k ≤ l.length → ∃ y, bestTo l k = some y
  | k + 1, _, h => by
    rw [bestTo_succ (List.getElem?_eq_getElem (show k < l.length by omega))]
    unfold bestStep
    split
    · exact ⟨_, rfl⟩
    · split <;> exact ⟨_, rfl⟩
/-- Is a stock right, as far as it was looked at? -/
def okBase (n np : Nat) (rg fl : Int) : Bool := inB n 1 10 && ((np : Int) == (n : Int)) && inB rg 0 100000 && inB fl 0 100000
def okAt (st : List Vial) (pr : List Int) (i : Nat) : Bool := match st[i]?, pr[i]? with | some v, some p => v.ok && inB p 0 1000 | _, _ => false
def okTo (st : List Vial) (pr : List Int) (rg fl : Int) (k : Nat) : Bool := okBase st.length pr.length rg fl && (List.range k).all (okAt st pr)
theorem okTo_succ (st : List Vial) (pr : List Int) (rg fl : Int) (k : Nat) : okTo st pr rg fl (k + 1) = (okTo st pr rg fl k && okAt st pr k) := by
  unfold okTo; rw [List.range_succ, List.all_append]; simp [Bool.and_assoc]
def offAt (st : List Vial) (pr : List Int) (rg fl : Int) (i : Nat) : Option Of := match st[i]?, pr[i]? with | some v, some p => if doesP v rg fl then some ⟨v, i, p⟩ else none | _, _ => none
def offTo (st : List Vial) (pr : List Int) (rg fl : Int) (k : Nat) : List Of := (List.range k).filterMap (offAt st pr rg fl)
theorem offTo_t {st : List Vial} {pr : List Int} {rg fl : Int} {k : Nat} {x : Of} (h : offAt st pr rg fl k = some x) : offTo st pr rg fl (k + 1) = offTo st pr rg fl k ++ [x] := by
  simp [offTo, List.range_succ, h]
theorem offTo_f {st : List Vial} {pr : List Int} {rg fl : Int} {k : Nat} (h : offAt st pr rg fl k = none) : offTo st pr rg fl (k + 1) = offTo st pr rg fl k := by
  simp [offTo, List.range_succ, h]
theorem offTo_le (st : List Vial) (pr : List Int) (rg fl : Int) (k : Nat) : (offTo st pr rg fl k).length ≤ k := by
  have := List.length_filterMap_le (offAt st pr rg fl) (List.range k)
  simpa [offTo] using this
/-- What Choose hands back. -/
def chooseP (st : List Vial) (pr : List Int) (rg fl : Int) : Int × Int :=
  if okTo st pr rg fl st.length then (match bestOf (offTo st pr rg fl st.length) with | some x => (x.i, 0) | none => (0, 4)) else (0, 34)
def ic (x : Int) : List TV := [.int .i64 x]
theorem ic_ints : ∀ l : List Int, l.flatMap ic = ints l
  | [] => rfl
  | x :: l => by rw [List.flatMap_cons, ic_ints l]; rfl
def unVials : List TV → Option (List Vial)
  | [] => some []
  | .int .i64 a :: .int .i64 b :: .int .i64 c :: .int .i64 d :: .int .i64 e :: .int .i64 f :: .int .i64 g :: .int .i64 h :: r => (unVials r).map (⟨a, b, c, d, e, f, g, h⟩ :: ·)
  | _ => none
theorem unVials_eq : ∀ l : List Vial, unVials (l.flatMap Vial.cs) = some l
  | [] => rfl
  | x :: l => by simp [Vial.cs, unVials, unVials_eq l]
theorem unVials_some : ∀ {cs : List TV} {l : List Vial}, unVials cs = some l → cs = l.flatMap Vial.cs := by
  intro cs
  induction cs using unVials.induct with
  | case1 => intro l h; simp [unVials] at h; subst h; rfl
  | case2 a b c d e f g h r ih =>
    intro l hh
    simp only [unVials, Option.map_eq_some_iff] at hh
    obtain ⟨l', h1, rfl⟩ := hh
    rw [ih h1]; rfl
  | case3 r h1 h2 =>
    intro l h
    unfold unVials at h
    split at h
    · exact absurd rfl h1
    · exact absurd rfl (h2 _ _ _ _ _ _ _ _ _)
    · cases h
attribute [go_sem] unVials_eq
end Go.Oc
namespace Go.Proofs.Ytgofljmnlfnlnaa
open Go.RowKit Go.Pm Go.Oc
set_option maxRecDepth 100000
set_option linter.unusedVariables false
set_option maxHeartbeats 4000000

theorem lPrice_c (x : Of) : PCalls Try.prog 66 [.agg x.cs] (.int .i64 x.p) := by
  refine pcalls_by Try.mixes noSpec_ok (fn := Try.f66) Try.func66 rfl (by kernel_rfl) (by show 1 ≤ _; decide) ?_
  simp (decide := true) (maxSteps := 4000000) only [go_sem, Nat.reduceAdd, Nat.reduceSub, Nat.reduceMul, Nat.reduceDiv, Nat.reduceMod, Nat.reduceLT, Nat.reduceLeDiff, Nat.reduceEqDiff, Nat.reduceBEq, Nat.reduceBNe, Nat.reduceGT, Int.reduceAdd, Int.reduceSub, Int.reduceMul, Int.reduceNeg, Int.reduceLT, Int.reduceLE, Int.reduceEq, Int.reduceNe, Int.reduceBEq, Int.reduceBNe, Int.reduceToNat, Int.reduceGT, Int.reduceGE, ↓reduceIte, decide_true, decide_false, Try.f66, Of.cs]
noncomputable def glPrice : List TV → Option TV
  | [.agg [.int .i64 a, .int .i64 b, .int .i64 c, .int .i64 d, .int .i64 e, .int .i64 f, .int .i64 g, .int .i64 h, .int .i64 i, .int .i64 p]] => some (.int .i64 p)
  | _ => none
theorem glPrice_ok : ∀ xs r, glPrice xs = some r → PCalls Try.prog 66 xs r := by
  intro xs r h
  unfold glPrice at h
  split at h
  · cases h; exact lPrice_c ⟨⟨_, _, _, _, _, _, _, _⟩, _, _⟩
  · cases h
attribute [go_sem] glPrice
noncomputable def spH1 : Pm.Spec := spD3.one 66 glPrice
@[go_sem] theorem spH1_p (f : FuncId) (xs : List TV) : spH1.p f xs = Pm.Spec.p (spD3.one 66 glPrice) f xs := rfl
@[go_sem] theorem spH1_h (f : FuncId) (ps : List PV) (hl : List PO) : spH1.h f ps hl = Pm.Spec.h (spD3.one 66 glPrice) f ps hl := rfl
@[go_sem] theorem spH1_fz (f : FuncId) : spH1.fz f = Pm.Spec.fz (spD3.one 66 glPrice) f := rfl
@[go_sem] theorem spH1_fr (f : FuncId) : spH1.fr f = Pm.Spec.fr (spD3.one 66 glPrice) f := rfl
@[go_sem] theorem spH1_mu (t : TypeId) : spH1.mu t = Pm.Spec.mu (spD3.one 66 glPrice) t := rfl
theorem spH1_ok : SpecOk Try.prog spH1 := Spec.one_ok glPrice_ok spD3_ok
theorem lCheapest_c (l : List Of) (full : Bool) (hl : l.length ≤ 1000) : PCalls Try.prog 65 [.fn 66 [] [], .sl (l.flatMap Of.cs) l.length full] (.tup [.agg ((bestOf l).getD Of.zero).cs, .bool (decide ((l.length : Int) > 0))]) := by
  refine pcalls_by Try.mixes spH1_ok (fn := Try.f65) Try.func65 rfl (by kernel_rfl) (by show 2 ≤ _; decide) ?_
  simp (decide := true) (maxSteps := 4000000) only [go_sem, Nat.reduceAdd, Nat.reduceSub, Nat.reduceMul, Nat.reduceDiv, Nat.reduceMod, Nat.reduceLT, Nat.reduceLeDiff, Nat.reduceEqDiff, Nat.reduceBEq, Nat.reduceBNe, Nat.reduceGT, Int.reduceAdd, Int.reduceSub, Int.reduceMul, Int.reduceNeg, Int.reduceLT, Int.reduceLE, Int.reduceEq, Int.reduceNe, Int.reduceBEq, Int.reduceBNe, Int.reduceToNat, Int.reduceGT, Int.reduceGE, ↓reduceIte, decide_true, decide_false, Try.f65]
  refine pwpC_loopQ (A := { k : Nat // k ≤ l.length }) (fun k => { env := [(11, .t (.int .i64 k.1)), (10, .t (.int .i64 l.length)), (9, .t (.sl (l.flatMap Of.cs) l.length full)), (0, .t (.fn 66 [] [])), (1, .t (.sl (l.flatMap Of.cs) l.length full)), (4, .ptr 0 0), (6, .ptr 1 0)], heap := [.box (Of.zero.cs.map .t), .box (((bestTo l k.1).getD Of.zero).cs.map .t)] }) (fun k => l.length - k.1) ⟨0, by omega⟩ ?_ (fun k => by rfl) fun Q1 hQ1 ⟨k, hk⟩ I1 hI1 => ?_
  · simp (decide := true) (maxSteps := 4000000) only [go_sem, Nat.reduceAdd, Nat.reduceSub, Nat.reduceMul, Nat.reduceDiv, Nat.reduceMod, Nat.reduceLT, Nat.reduceLeDiff, Nat.reduceEqDiff, Nat.reduceBEq, Nat.reduceBNe, Nat.reduceGT, Int.reduceAdd, Int.reduceSub, Int.reduceMul, Int.reduceNeg, Int.reduceLT, Int.reduceLE, Int.reduceEq, Int.reduceNe, Int.reduceBEq, Int.reduceBNe, Int.reduceToNat, Int.reduceGT, Int.reduceGE, ↓reduceIte, decide_true, decide_false, Of.cs, Of.zero, bestTo]
  · by_cases hlt : (k : Int) < l.length
    · obtain ⟨x, hx⟩ := get_lt hlt
      have hd := flat_at Of.cs (n := 10) (fun _ => rfl) hx
      have hc1 : IntKind.i64.wrap (k + 1) = ((k + 1 : Nat) : Int) := by rw [wrap_in (by omega) (by omega)]; omega
      have hs := bestTo_succ hx
      rcases Nat.eq_zero_or_pos k with h0 | h0
      · subst h0
        have e0 : (((0 : Nat) : Int) == 0) = true := rfl
        have hb0 : bestTo l 0 = none := rfl
        rw [hb0] at hs
        simp (decide := true) (maxSteps := 4000000) only [go_sem, Nat.reduceAdd, Nat.reduceSub, Nat.reduceMul, Nat.reduceDiv, Nat.reduceMod, Nat.reduceLT, Nat.reduceLeDiff, Nat.reduceEqDiff, Nat.reduceBEq, Nat.reduceBNe, Nat.reduceGT, Int.reduceAdd, Int.reduceSub, Int.reduceMul, Int.reduceNeg, Int.reduceLT, Int.reduceLE, Int.reduceEq, Int.reduceNe, Int.reduceBEq, Int.reduceBNe, Int.reduceToNat, Int.reduceGT, Int.reduceGE, ↓reduceIte, decide_true, decide_false, hlt, hd, Of.cs, Of.zero, e0]
        refine hI1 _ ⟨1, by omega⟩ (by simp only; omega) ?_
        simp (decide := true) (maxSteps := 4000000) only [go_sem, Nat.reduceAdd, Nat.reduceSub, Nat.reduceMul, Nat.reduceDiv, Nat.reduceMod, Nat.reduceLT, Nat.reduceLeDiff, Nat.reduceEqDiff, Nat.reduceBEq, Nat.reduceBNe, Nat.reduceGT, Int.reduceAdd, Int.reduceSub, Int.reduceMul, Int.reduceNeg, Int.reduceLT, Int.reduceLE, Int.reduceEq, Int.reduceNe, Int.reduceBEq, Int.reduceBNe, Int.reduceToNat, Int.reduceGT, Int.reduceGE, ↓reduceIte, decide_true, decide_false, hc1, hs, bestStep, Of.cs, Of.zero]
      · obtain ⟨y, hy⟩ := bestTo_some h0 hk
        have e0 : ((k : Int) == 0) = false := by simp; omega
        rw [hy] at hs
        by_cases hp : x.p < y.p
        · simp (decide := true) (maxSteps := 4000000) only [go_sem, Nat.reduceAdd, Nat.reduceSub, Nat.reduceMul, Nat.reduceDiv, Nat.reduceMod, Nat.reduceLT, Nat.reduceLeDiff, Nat.reduceEqDiff, Nat.reduceBEq, Nat.reduceBNe, Nat.reduceGT, Int.reduceAdd, Int.reduceSub, Int.reduceMul, Int.reduceNeg, Int.reduceLT, Int.reduceLE, Int.reduceEq, Int.reduceNe, Int.reduceBEq, Int.reduceBNe, Int.reduceToNat, Int.reduceGT, Int.reduceGE, ↓reduceIte, decide_true, decide_false, hlt, hd, Of.cs, Of.zero, e0, hy, hp]
          refine hI1 _ ⟨k + 1, by omega⟩ (by simp only; omega) ?_
          simp (decide := true) (maxSteps := 4000000) only [go_sem, Nat.reduceAdd, Nat.reduceSub, Nat.reduceMul, Nat.reduceDiv, Nat.reduceMod, Nat.reduceLT, Nat.reduceLeDiff, Nat.reduceEqDiff, Nat.reduceBEq, Nat.reduceBNe, Nat.reduceGT, Int.reduceAdd, Int.reduceSub, Int.reduceMul, Int.reduceNeg, Int.reduceLT, Int.reduceLE, Int.reduceEq, Int.reduceNe, Int.reduceBEq, Int.reduceBNe, Int.reduceToNat, Int.reduceGT, Int.reduceGE, ↓reduceIte, decide_true, decide_false, hc1, hs, bestStep, hp, Of.cs, Of.zero]
        · simp (decide := true) (maxSteps := 4000000) only [go_sem, Nat.reduceAdd, Nat.reduceSub, Nat.reduceMul, Nat.reduceDiv, Nat.reduceMod, Nat.reduceLT, Nat.reduceLeDiff, Nat.reduceEqDiff, Nat.reduceBEq, Nat.reduceBNe, Nat.reduceGT, Int.reduceAdd, Int.reduceSub, Int.reduceMul, Int.reduceNeg, Int.reduceLT, Int.reduceLE, Int.reduceEq, Int.reduceNe, Int.reduceBEq, Int.reduceBNe, Int.reduceToNat, Int.reduceGT, Int.reduceGE, ↓reduceIte, decide_true, decide_false, hlt, hd, Of.cs, Of.zero, e0, hy, hp]
          refine hI1 _ ⟨k + 1, by omega⟩ (by simp only; omega) ?_
          simp (decide := true) (maxSteps := 4000000) only [go_sem, Nat.reduceAdd, Nat.reduceSub, Nat.reduceMul, Nat.reduceDiv, Nat.reduceMod, Nat.reduceLT, Nat.reduceLeDiff, Nat.reduceEqDiff, Nat.reduceBEq, Nat.reduceBNe, Nat.reduceGT, Int.reduceAdd, Int.reduceSub, Int.reduceMul, Int.reduceNeg, Int.reduceLT, Int.reduceLE, Int.reduceEq, Int.reduceNe, Int.reduceBEq, Int.reduceBNe, Int.reduceToNat, Int.reduceGT, Int.reduceGE, ↓reduceIte, decide_true, decide_false, hc1, hs, bestStep, hp, Of.cs, Of.zero, hy]
    · have hkl : k = l.length := by omega
      subst hkl
      have hbe : bestTo l l.length = bestOf l := by unfold bestTo; rw [List.take_length]; rfl
      simp (decide := true) (maxSteps := 4000000) only [go_sem, Nat.reduceAdd, Nat.reduceSub, Nat.reduceMul, Nat.reduceDiv, Nat.reduceMod, Nat.reduceLT, Nat.reduceLeDiff, Nat.reduceEqDiff, Nat.reduceBEq, Nat.reduceBNe, Nat.reduceGT, Int.reduceAdd, Int.reduceSub, Int.reduceMul, Int.reduceNeg, Int.reduceLT, Int.reduceLE, Int.reduceEq, Int.reduceNe, Int.reduceBEq, Int.reduceBNe, Int.reduceToNat, Int.reduceGT, Int.reduceGE, ↓reduceIte, decide_true, decide_false, hlt]
      refine hQ1 _ _ ?_
      simp (decide := true) (maxSteps := 4000000) only [go_sem, Nat.reduceAdd, Nat.reduceSub, Nat.reduceMul, Nat.reduceDiv, Nat.reduceMod, Nat.reduceLT, Nat.reduceLeDiff, Nat.reduceEqDiff, Nat.reduceBEq, Nat.reduceBNe, Nat.reduceGT, Int.reduceAdd, Int.reduceSub, Int.reduceMul, Int.reduceNeg, Int.reduceLT, Int.reduceLE, Int.reduceEq, Int.reduceNe, Int.reduceBEq, Int.reduceBNe, Int.reduceToNat, Int.reduceGT, Int.reduceGE, ↓reduceIte, decide_true, decide_false, hbe, Of.cs, Of.zero]
theorem lCheapest_n : PCalls Try.prog 65 [.fn 66 [] [], .nilSl] (.tup [.agg ((bestOf []).getD Of.zero).cs, .bool false]) := by
  refine pcalls_by Try.mixes spH1_ok (fn := Try.f65) Try.func65 rfl (by kernel_rfl) (by show 2 ≤ _; decide) ?_
  simp (decide := true) (maxSteps := 4000000) only [go_sem, Nat.reduceAdd, Nat.reduceSub, Nat.reduceMul, Nat.reduceDiv, Nat.reduceMod, Nat.reduceLT, Nat.reduceLeDiff, Nat.reduceEqDiff, Nat.reduceBEq, Nat.reduceBNe, Nat.reduceGT, Int.reduceAdd, Int.reduceSub, Int.reduceMul, Int.reduceNeg, Int.reduceLT, Int.reduceLE, Int.reduceEq, Int.reduceNe, Int.reduceBEq, Int.reduceBNe, Int.reduceToNat, Int.reduceGT, Int.reduceGE, ↓reduceIte, decide_true, decide_false, Try.f65]
  refine pwpC_loopQ (A := Unit) (fun k => { env := [(11, .t (.int .i64 0)), (10, .t (.int .i64 0)), (1, .t .nilSl), (4, .ptr 0 0), (6, .ptr 1 0)], heap := [.box (Of.zero.cs.map .t), .box (Of.zero.cs.map .t)] }) (fun k => 0) () ?_ (fun k => by rfl) fun Q1 hQ1 k I1 hI1 => ?_
  · simp (decide := true) (maxSteps := 4000000) only [go_sem, Nat.reduceAdd, Nat.reduceSub, Nat.reduceMul, Nat.reduceDiv, Nat.reduceMod, Nat.reduceLT, Nat.reduceLeDiff, Nat.reduceEqDiff, Nat.reduceBEq, Nat.reduceBNe, Nat.reduceGT, Int.reduceAdd, Int.reduceSub, Int.reduceMul, Int.reduceNeg, Int.reduceLT, Int.reduceLE, Int.reduceEq, Int.reduceNe, Int.reduceBEq, Int.reduceBNe, Int.reduceToNat, Int.reduceGT, Int.reduceGE, ↓reduceIte, decide_true, decide_false, Of.cs, Of.zero]
  · simp (decide := true) (maxSteps := 4000000) only [go_sem, Nat.reduceAdd, Nat.reduceSub, Nat.reduceMul, Nat.reduceDiv, Nat.reduceMod, Nat.reduceLT, Nat.reduceLeDiff, Nat.reduceEqDiff, Nat.reduceBEq, Nat.reduceBNe, Nat.reduceGT, Int.reduceAdd, Int.reduceSub, Int.reduceMul, Int.reduceNeg, Int.reduceLT, Int.reduceLE, Int.reduceEq, Int.reduceNe, Int.reduceBEq, Int.reduceBNe, Int.reduceToNat, Int.reduceGT, Int.reduceGE, ↓reduceIte, decide_true, decide_false]
    refine hQ1 _ _ ?_
    simp (decide := true) (maxSteps := 4000000) only [go_sem, Nat.reduceAdd, Nat.reduceSub, Nat.reduceMul, Nat.reduceDiv, Nat.reduceMod, Nat.reduceLT, Nat.reduceLeDiff, Nat.reduceEqDiff, Nat.reduceBEq, Nat.reduceBNe, Nat.reduceGT, Int.reduceAdd, Int.reduceSub, Int.reduceMul, Int.reduceNeg, Int.reduceLT, Int.reduceLE, Int.reduceEq, Int.reduceNe, Int.reduceBEq, Int.reduceBNe, Int.reduceToNat, Int.reduceGT, Int.reduceGE, ↓reduceIte, decide_true, decide_false, Of.cs, Of.zero, bestOf]
end Go.Proofs.Ytgofljmnlfnlnaa

/- Part Li. -/
namespace Go.Proofs.Ytgofljmnlfnlnaa
open Go.RowKit Go.Pm Go.Oc
set_option maxRecDepth 100000
set_option linter.unusedVariables false
set_option maxHeartbeats 4000000

theorem lCheapest_d {l : List Of} {s : TV} (hs : IsRow Of.cs s l) (hl : l.length ≤ 1000) : PCalls Try.prog 65 [.fn 66 [] [], s] (.tup [.agg ((bestOf l).getD Of.zero).cs, .bool (decide ((l.length : Int) > 0))]) := by
  rcases hs with ⟨rfl, rfl⟩ | ⟨full, rfl⟩
  · exact lCheapest_n
  · exact lCheapest_c l full hl
noncomputable def glCheapest : List TV → Option TV
  | [.fn 66 [] [], s] => match rowL unOfs s with
    | some l => if l.length ≤ 1000 then some (.tup [.agg ((bestOf l).getD Of.zero).cs, .bool (decide ((l.length : Int) > 0))]) else none
    | none => none
  | _ => none
theorem glCheapest_ok : ∀ xs r, glCheapest xs = some r → PCalls Try.prog 65 xs r := by
  intro xs r h
  unfold glCheapest at h
  split at h
  · split at h
    · rename_i l hl
      have hl := rowL_some (un := unOfs) rfl (@unOfs_some) hl
      split at h
      · rename_i hc; cases h; exact lCheapest_d hl hc
      · cases h
    · cases h
  · cases h
attribute [go_sem] glCheapest
noncomputable def spI1 : Pm.Spec := (spD3.one 66 glPrice).one 65 glCheapest
@[go_sem] theorem spI1_p (f : FuncId) (xs : List TV) : spI1.p f xs = Pm.Spec.p ((spD3.one 66 glPrice).one 65 glCheapest) f xs := rfl
@[go_sem] theorem spI1_h (f : FuncId) (ps : List PV) (hl : List PO) : spI1.h f ps hl = Pm.Spec.h ((spD3.one 66 glPrice).one 65 glCheapest) f ps hl := rfl
@[go_sem] theorem spI1_fz (f : FuncId) : spI1.fz f = Pm.Spec.fz ((spD3.one 66 glPrice).one 65 glCheapest) f := rfl
@[go_sem] theorem spI1_fr (f : FuncId) : spI1.fr f = Pm.Spec.fr ((spD3.one 66 glPrice).one 65 glCheapest) f := rfl
@[go_sem] theorem spI1_mu (t : TypeId) : spI1.mu t = Pm.Spec.mu ((spD3.one 66 glPrice).one 65 glCheapest) t := rfl
theorem spI1_ok : SpecOk Try.prog spI1 := Spec.one_ok glCheapest_ok (Spec.one_ok glPrice_ok spD3_ok)

theorem okTo_ok {st : List Vial} {pr : List Int} {rg fl : Int} {n k : Nat} {x : Vial} (h : okTo st pr rg fl n = true) (hk : k < n) (hx : st[k]? = some x) : x.ok = true := by
  simp only [okTo, Bool.and_eq_true, List.all_eq_true, List.mem_range] at h
  have := h.2 k hk
  unfold okAt at this
  rw [hx] at this
  split at this
  · rename_i h1 _; cases h1; simp only [Bool.and_eq_true] at this; exact this.1
  · cases this
theorem best_some {l : List Of} (h : 0 < l.length) : ∃ y, bestOf l = some y := by
  have := bestTo_some (k := l.length) h (Nat.le_refl _)
  rwa [show bestTo l l.length = bestOf l by unfold bestTo; rw [List.take_length]; rfl] at this

theorem lChoose_c {st : List Vial} {pr : List Int} {s t : TV} (hs : IsRow Vial.cs s st) (ht : IsRow ic t pr) (rg fl : Int) (hl : st.length ≤ 2199023255552) : PCalls Try.prog 30 [s, t, .agg [.int .i64 rg, .int .i64 fl]] (.tup [.int .i64 (chooseP st pr rg fl).1, .int .i64 (chooseP st pr rg fl).2]) := by
  refine pcalls_by Try.mixes spI1_ok (fn := Try.f30) Try.func30 rfl (by kernel_rfl) (by show 3 ≤ _; decide) ?_
  cases hb : okBase st.length pr.length rg fl with
  | false =>
    have ho : ∀ k, okTo st pr rg fl k = false := fun k => by unfold okTo; rw [hb]; rfl
    have hr : chooseP st pr rg fl = (0, 34) := by unfold chooseP; rw [ho]; rfl
    rw [hr]
    unfold okBase at hb
    rcases hs with ⟨rfl, rfl⟩ | ⟨full, rfl⟩
    · rcases ht with ⟨rfl, rfl⟩ | ⟨full', rfl⟩
      all_goals
        simp (decide := true) (maxSteps := 4000000) only [go_sem, Nat.reduceAdd, Nat.reduceSub, Nat.reduceMul, Nat.reduceDiv, Nat.reduceMod, Nat.reduceLT, Nat.reduceLeDiff, Nat.reduceEqDiff, Nat.reduceBEq, Nat.reduceBNe, Nat.reduceGT, Int.reduceAdd, Int.reduceSub, Int.reduceMul, Int.reduceNeg, Int.reduceLT, Int.reduceLE, Int.reduceEq, Int.reduceNe, Int.reduceBEq, Int.reduceBNe, Int.reduceToNat, Int.reduceGT, Int.reduceGE, ↓reduceIte, decide_true, decide_false, Try.f30]
        refine pwpC_loopU (A := Unit) [0, 1, 5, 38] (fun _ => [(39, .t (.int .i64 0)), (8, .t (.bool false))]) (fun _ => []) (fun _ => 0) () (by decide) (fun _ => by rfl) ?_ fun Q1 hQ1 k I1 hI1 => ?_
        · simp (decide := true) (maxSteps := 4000000) only [go_sem, Nat.reduceAdd, Nat.reduceSub, Nat.reduceMul, Nat.reduceDiv, Nat.reduceMod, Nat.reduceLT, Nat.reduceLeDiff, Nat.reduceEqDiff, Nat.reduceBEq, Nat.reduceBNe, Nat.reduceGT, Int.reduceAdd, Int.reduceSub, Int.reduceMul, Int.reduceNeg, Int.reduceLT, Int.reduceLE, Int.reduceEq, Int.reduceNe, Int.reduceBEq, Int.reduceBNe, Int.reduceToNat, Int.reduceGT, Int.reduceGE, ↓reduceIte, decide_true, decide_false, inB]
        · simp (decide := true) (maxSteps := 4000000) only [go_sem, Nat.reduceAdd, Nat.reduceSub, Nat.reduceMul, Nat.reduceDiv, Nat.reduceMod, Nat.reduceLT, Nat.reduceLeDiff, Nat.reduceEqDiff, Nat.reduceBEq, Nat.reduceBNe, Nat.reduceGT, Int.reduceAdd, Int.reduceSub, Int.reduceMul, Int.reduceNeg, Int.reduceLT, Int.reduceLE, Int.reduceEq, Int.reduceNe, Int.reduceBEq, Int.reduceBNe, Int.reduceToNat, Int.reduceGT, Int.reduceGE, ↓reduceIte, decide_true, decide_false]
          refine hQ1 _ _ ?_
          simp (decide := true) (maxSteps := 4000000) only [go_sem, Nat.reduceAdd, Nat.reduceSub, Nat.reduceMul, Nat.reduceDiv, Nat.reduceMod, Nat.reduceLT, Nat.reduceLeDiff, Nat.reduceEqDiff, Nat.reduceBEq, Nat.reduceBNe, Nat.reduceGT, Int.reduceAdd, Int.reduceSub, Int.reduceMul, Int.reduceNeg, Int.reduceLT, Int.reduceLE, Int.reduceEq, Int.reduceNe, Int.reduceBEq, Int.reduceBNe, Int.reduceToNat, Int.reduceGT, Int.reduceGE, ↓reduceIte, decide_true, decide_false]
    · rcases ht with ⟨rfl, rfl⟩ | ⟨full', rfl⟩
      all_goals
        simp (decide := true) (maxSteps := 4000000) only [go_sem, Nat.reduceAdd, Nat.reduceSub, Nat.reduceMul, Nat.reduceDiv, Nat.reduceMod, Nat.reduceLT, Nat.reduceLeDiff, Nat.reduceEqDiff, Nat.reduceBEq, Nat.reduceBNe, Nat.reduceGT, Int.reduceAdd, Int.reduceSub, Int.reduceMul, Int.reduceNeg, Int.reduceLT, Int.reduceLE, Int.reduceEq, Int.reduceNe, Int.reduceBEq, Int.reduceBNe, Int.reduceToNat, Int.reduceGT, Int.reduceGE, ↓reduceIte, decide_true, decide_false, Try.f30]
        refine pwpC_loopU (A := { k : Nat // k ≤ st.length }) [0, 1, 5, 38] (fun k => [(39, .t (.int .i64 k.1)), (8, .t (.bool false))]) (fun _ => []) (fun k => st.length - k.1) ⟨0, by omega⟩ (by decide) (fun _ => by rfl) ?_ fun Q1 hQ1 ⟨k, hk⟩ I1 hI1 => ?_
        · simp (decide := true) (maxSteps := 4000000) only [go_sem, Nat.reduceAdd, Nat.reduceSub, Nat.reduceMul, Nat.reduceDiv, Nat.reduceMod, Nat.reduceLT, Nat.reduceLeDiff, Nat.reduceEqDiff, Nat.reduceBEq, Nat.reduceBNe, Nat.reduceGT, Int.reduceAdd, Int.reduceSub, Int.reduceMul, Int.reduceNeg, Int.reduceLT, Int.reduceLE, Int.reduceEq, Int.reduceNe, Int.reduceBEq, Int.reduceBNe, Int.reduceToNat, Int.reduceGT, Int.reduceGE, ↓reduceIte, decide_true, decide_false]
          simpa using hb
        · by_cases hlt : (k : Int) < st.length
          · obtain ⟨x, hx⟩ := get_lt hlt
            have hd := flat_at Vial.cs (n := 8) (fun _ => rfl) hx
            have hc1 : IntKind.i64.wrap (k + 1) = ((k + 1 : Nat) : Int) := by rw [wrap_in (by omega) (by omega)]; omega
            first
            | simp (decide := true) (maxSteps := 4000000) only [go_sem, Nat.reduceAdd, Nat.reduceSub, Nat.reduceMul, Nat.reduceDiv, Nat.reduceMod, Nat.reduceLT, Nat.reduceLeDiff, Nat.reduceEqDiff, Nat.reduceBEq, Nat.reduceBNe, Nat.reduceGT, Int.reduceAdd, Int.reduceSub, Int.reduceMul, Int.reduceNeg, Int.reduceLT, Int.reduceLE, Int.reduceEq, Int.reduceNe, Int.reduceBEq, Int.reduceBNe, Int.reduceToNat, Int.reduceGT, Int.reduceGE, ↓reduceIte, decide_true, decide_false, hlt, hd, Vial.cs]
              refine hI1 _ ⟨k + 1, by omega⟩ (by simp only; omega) ?_
              simp (decide := true) (maxSteps := 4000000) only [go_sem, Nat.reduceAdd, Nat.reduceSub, Nat.reduceMul, Nat.reduceDiv, Nat.reduceMod, Nat.reduceLT, Nat.reduceLeDiff, Nat.reduceEqDiff, Nat.reduceBEq, Nat.reduceBNe, Nat.reduceGT, Int.reduceAdd, Int.reduceSub, Int.reduceMul, Int.reduceNeg, Int.reduceLT, Int.reduceLE, Int.reduceEq, Int.reduceNe, Int.reduceBEq, Int.reduceBNe, Int.reduceToNat, Int.reduceGT, Int.reduceGE, ↓reduceIte, decide_true, decide_false, hc1]
            | by_cases hlp : (k : Int) < pr.length
              · obtain ⟨y, hy⟩ := get_lt hlp
                have hdy := flat_at ic (n := 1) (fun _ => rfl) hy
                rw [Nat.mul_one] at hdy
                simp (decide := true) (maxSteps := 4000000) only [go_sem, Nat.reduceAdd, Nat.reduceSub, Nat.reduceMul, Nat.reduceDiv, Nat.reduceMod, Nat.reduceLT, Nat.reduceLeDiff, Nat.reduceEqDiff, Nat.reduceBEq, Nat.reduceBNe, Nat.reduceGT, Int.reduceAdd, Int.reduceSub, Int.reduceMul, Int.reduceNeg, Int.reduceLT, Int.reduceLE, Int.reduceEq, Int.reduceNe, Int.reduceBEq, Int.reduceBNe, Int.reduceToNat, Int.reduceGT, Int.reduceGE, ↓reduceIte, decide_true, decide_false, eq_self, Nat.mul_one, Nat.zero_mul, Nat.one_mul, Int.le_refl, Nat.le_refl, Int.cast_ofNat_Int, hlt, hd, Vial.cs, hdy, hlp, ic]
                refine hI1 _ ⟨k + 1, by omega⟩ (by simp only; omega) ?_
                simp (decide := true) (maxSteps := 4000000) only [go_sem, Nat.reduceAdd, Nat.reduceSub, Nat.reduceMul, Nat.reduceDiv, Nat.reduceMod, Nat.reduceLT, Nat.reduceLeDiff, Nat.reduceEqDiff, Nat.reduceBEq, Nat.reduceBNe, Nat.reduceGT, Int.reduceAdd, Int.reduceSub, Int.reduceMul, Int.reduceNeg, Int.reduceLT, Int.reduceLE, Int.reduceEq, Int.reduceNe, Int.reduceBEq, Int.reduceBNe, Int.reduceToNat, Int.reduceGT, Int.reduceGE, ↓reduceIte, decide_true, decide_false, hc1]
              · simp (decide := true) (maxSteps := 4000000) only [go_sem, Nat.reduceAdd, Nat.reduceSub, Nat.reduceMul, Nat.reduceDiv, Nat.reduceMod, Nat.reduceLT, Nat.reduceLeDiff, Nat.reduceEqDiff, Nat.reduceBEq, Nat.reduceBNe, Nat.reduceGT, Int.reduceAdd, Int.reduceSub, Int.reduceMul, Int.reduceNeg, Int.reduceLT, Int.reduceLE, Int.reduceEq, Int.reduceNe, Int.reduceBEq, Int.reduceBNe, Int.reduceToNat, Int.reduceGT, Int.reduceGE, ↓reduceIte, decide_true, decide_false, eq_self, Nat.mul_one, Nat.zero_mul, Nat.one_mul, Int.le_refl, Nat.le_refl, Int.cast_ofNat_Int, hlt, hd, Vial.cs, hlp]
                refine hI1 _ ⟨k + 1, by omega⟩ (by simp only; omega) ?_
                simp (decide := true) (maxSteps := 4000000) only [go_sem, Nat.reduceAdd, Nat.reduceSub, Nat.reduceMul, Nat.reduceDiv, Nat.reduceMod, Nat.reduceLT, Nat.reduceLeDiff, Nat.reduceEqDiff, Nat.reduceBEq, Nat.reduceBNe, Nat.reduceGT, Int.reduceAdd, Int.reduceSub, Int.reduceMul, Int.reduceNeg, Int.reduceLT, Int.reduceLE, Int.reduceEq, Int.reduceNe, Int.reduceBEq, Int.reduceBNe, Int.reduceToNat, Int.reduceGT, Int.reduceGE, ↓reduceIte, decide_true, decide_false, hc1]
          · simp (decide := true) (maxSteps := 4000000) only [go_sem, Nat.reduceAdd, Nat.reduceSub, Nat.reduceMul, Nat.reduceDiv, Nat.reduceMod, Nat.reduceLT, Nat.reduceLeDiff, Nat.reduceEqDiff, Nat.reduceBEq, Nat.reduceBNe, Nat.reduceGT, Int.reduceAdd, Int.reduceSub, Int.reduceMul, Int.reduceNeg, Int.reduceLT, Int.reduceLE, Int.reduceEq, Int.reduceNe, Int.reduceBEq, Int.reduceBNe, Int.reduceToNat, Int.reduceGT, Int.reduceGE, ↓reduceIte, decide_true, decide_false, hlt]
            refine hQ1 _ _ ?_
            simp (decide := true) (maxSteps := 4000000) only [go_sem, Nat.reduceAdd, Nat.reduceSub, Nat.reduceMul, Nat.reduceDiv, Nat.reduceMod, Nat.reduceLT, Nat.reduceLeDiff, Nat.reduceEqDiff, Nat.reduceBEq, Nat.reduceBNe, Nat.reduceGT, Int.reduceAdd, Int.reduceSub, Int.reduceMul, Int.reduceNeg, Int.reduceLT, Int.reduceLE, Int.reduceEq, Int.reduceNe, Int.reduceBEq, Int.reduceBNe, Int.reduceToNat, Int.reduceGT, Int.reduceGE, ↓reduceIte, decide_true, decide_false]
  | true =>
    have h10 : 1 ≤ st.length ∧ st.length ≤ 10 ∧ pr.length = st.length := by
      simp only [okBase, inB, Bool.and_eq_true, decide_eq_true_eq, beq_iff_eq] at hb; omega
    obtain ⟨full, rfl⟩ := hs.ne h10.1
    obtain ⟨full', rfl⟩ := ht.ne (by omega)
    have hb' := hb
    unfold okBase at hb'
    rw [h10.2.2] at hb' ⊢
    simp (decide := true) (maxSteps := 4000000) only [go_sem, Nat.reduceAdd, Nat.reduceSub, Nat.reduceMul, Nat.reduceDiv, Nat.reduceMod, Nat.reduceLT, Nat.reduceLeDiff, Nat.reduceEqDiff, Nat.reduceBEq, Nat.reduceBNe, Nat.reduceGT, Int.reduceAdd, Int.reduceSub, Int.reduceMul, Int.reduceNeg, Int.reduceLT, Int.reduceLE, Int.reduceEq, Int.reduceNe, Int.reduceBEq, Int.reduceBNe, Int.reduceToNat, Int.reduceGT, Int.reduceGE, ↓reduceIte, decide_true, decide_false, Try.f30]
    refine pwpC_loopU (A := { k : Nat // k ≤ st.length }) [0, 1, 5, 38] (fun k => [(39, .t (.int .i64 k.1)), (8, .t (.bool (okTo st pr rg fl k.1)))]) (fun _ => []) (fun k => st.length - k.1) ⟨0, by omega⟩ (by decide) (fun _ => by rfl) ?_ fun Q1 hQ1 ⟨k, hk⟩ I1 hI1 => ?_
    · simp (decide := true) (maxSteps := 4000000) only [go_sem, Nat.reduceAdd, Nat.reduceSub, Nat.reduceMul, Nat.reduceDiv, Nat.reduceMod, Nat.reduceLT, Nat.reduceLeDiff, Nat.reduceEqDiff, Nat.reduceBEq, Nat.reduceBNe, Nat.reduceGT, Int.reduceAdd, Int.reduceSub, Int.reduceMul, Int.reduceNeg, Int.reduceLT, Int.reduceLE, Int.reduceEq, Int.reduceNe, Int.reduceBEq, Int.reduceBNe, Int.reduceToNat, Int.reduceGT, Int.reduceGE, ↓reduceIte, decide_true, decide_false]
      unfold okTo okBase
      rw [h10.2.2]; simp
    · by_cases hlt : (k : Int) < st.length
      · obtain ⟨x, hx⟩ := get_lt hlt
        obtain ⟨y, hy⟩ := get_lt (l := pr) (k := k) (by omega)
        have hd := flat_at Vial.cs (n := 8) (fun _ => rfl) hx
        have hdy := flat_at ic (n := 1) (fun _ => rfl) hy
        rw [Nat.mul_one] at hdy
        have hc1 : IntKind.i64.wrap (k + 1) = ((k + 1 : Nat) : Int) := by rw [wrap_in (by omega) (by omega)]; omega
        have hs := okTo_succ st pr rg fl k
        unfold okAt at hs
        rw [hx, hy] at hs
        cases hok : okTo st pr rg fl k with
        | false =>
          simp (decide := true) (maxSteps := 4000000) only [go_sem, Nat.reduceAdd, Nat.reduceSub, Nat.reduceMul, Nat.reduceDiv, Nat.reduceMod, Nat.reduceLT, Nat.reduceLeDiff, Nat.reduceEqDiff, Nat.reduceBEq, Nat.reduceBNe, Nat.reduceGT, Int.reduceAdd, Int.reduceSub, Int.reduceMul, Int.reduceNeg, Int.reduceLT, Int.reduceLE, Int.reduceEq, Int.reduceNe, Int.reduceBEq, Int.reduceBNe, Int.reduceToNat, Int.reduceGT, Int.reduceGE, ↓reduceIte, decide_true, decide_false, eq_self, Nat.mul_one, Nat.zero_mul, Nat.one_mul, Int.le_refl, Nat.le_refl, Int.cast_ofNat_Int, hlt, hd, hdy, Vial.cs, ic, hok]
          refine hI1 _ ⟨k + 1, by omega⟩ (by simp only; omega) ?_
          simp (decide := true) (maxSteps := 4000000) only [go_sem, Nat.reduceAdd, Nat.reduceSub, Nat.reduceMul, Nat.reduceDiv, Nat.reduceMod, Nat.reduceLT, Nat.reduceLeDiff, Nat.reduceEqDiff, Nat.reduceBEq, Nat.reduceBNe, Nat.reduceGT, Int.reduceAdd, Int.reduceSub, Int.reduceMul, Int.reduceNeg, Int.reduceLT, Int.reduceLE, Int.reduceEq, Int.reduceNe, Int.reduceBEq, Int.reduceBNe, Int.reduceToNat, Int.reduceGT, Int.reduceGE, ↓reduceIte, decide_true, decide_false, hc1, hs, hok, Bool.false_and]
        | true =>
          cases hv : x.ok with
          | false =>
            simp (decide := true) (maxSteps := 4000000) only [go_sem, Nat.reduceAdd, Nat.reduceSub, Nat.reduceMul, Nat.reduceDiv, Nat.reduceMod, Nat.reduceLT, Nat.reduceLeDiff, Nat.reduceEqDiff, Nat.reduceBEq, Nat.reduceBNe, Nat.reduceGT, Int.reduceAdd, Int.reduceSub, Int.reduceMul, Int.reduceNeg, Int.reduceLT, Int.reduceLE, Int.reduceEq, Int.reduceNe, Int.reduceBEq, Int.reduceBNe, Int.reduceToNat, Int.reduceGT, Int.reduceGE, ↓reduceIte, decide_true, decide_false, eq_self, Nat.mul_one, Nat.zero_mul, Nat.one_mul, Int.le_refl, Nat.le_refl, Int.cast_ofNat_Int, hlt, hd, hdy, Vial.cs, ic, hok, hv]
            refine hI1 _ ⟨k + 1, by omega⟩ (by simp only; omega) ?_
            simp (decide := true) (maxSteps := 4000000) only [go_sem, Nat.reduceAdd, Nat.reduceSub, Nat.reduceMul, Nat.reduceDiv, Nat.reduceMod, Nat.reduceLT, Nat.reduceLeDiff, Nat.reduceEqDiff, Nat.reduceBEq, Nat.reduceBNe, Nat.reduceGT, Int.reduceAdd, Int.reduceSub, Int.reduceMul, Int.reduceNeg, Int.reduceLT, Int.reduceLE, Int.reduceEq, Int.reduceNe, Int.reduceBEq, Int.reduceBNe, Int.reduceToNat, Int.reduceGT, Int.reduceGE, ↓reduceIte, decide_true, decide_false, hc1, hs, hok, hv, Bool.false_and, Bool.true_and]
          | true =>
            simp (decide := true) (maxSteps := 4000000) only [go_sem, Nat.reduceAdd, Nat.reduceSub, Nat.reduceMul, Nat.reduceDiv, Nat.reduceMod, Nat.reduceLT, Nat.reduceLeDiff, Nat.reduceEqDiff, Nat.reduceBEq, Nat.reduceBNe, Nat.reduceGT, Int.reduceAdd, Int.reduceSub, Int.reduceMul, Int.reduceNeg, Int.reduceLT, Int.reduceLE, Int.reduceEq, Int.reduceNe, Int.reduceBEq, Int.reduceBNe, Int.reduceToNat, Int.reduceGT, Int.reduceGE, ↓reduceIte, decide_true, decide_false, eq_self, Nat.mul_one, Nat.zero_mul, Nat.one_mul, Int.le_refl, Nat.le_refl, Int.cast_ofNat_Int, hlt, hd, hdy, Vial.cs, ic, hok, hv]
            refine hI1 _ ⟨k + 1, by omega⟩ (by simp only; omega) ?_
            simp (decide := true) (maxSteps := 4000000) only [go_sem, Nat.reduceAdd, Nat.reduceSub, Nat.reduceMul, Nat.reduceDiv, Nat.reduceMod, Nat.reduceLT, Nat.reduceLeDiff, Nat.reduceEqDiff, Nat.reduceBEq, Nat.reduceBNe, Nat.reduceGT, Int.reduceAdd, Int.reduceSub, Int.reduceMul, Int.reduceNeg, Int.reduceLT, Int.reduceLE, Int.reduceEq, Int.reduceNe, Int.reduceBEq, Int.reduceBNe, Int.reduceToNat, Int.reduceGT, Int.reduceGE, ↓reduceIte, decide_true, decide_false, hc1, hs, hok, hv, Bool.true_and]
      · have hkl : k = st.length := by omega
        subst hkl
        cases hok : okTo st pr rg fl st.length with
        | false =>
          have hr : chooseP st pr rg fl = (0, 34) := by unfold chooseP; rw [hok]; rfl
          simp (decide := true) (maxSteps := 4000000) only [go_sem, Nat.reduceAdd, Nat.reduceSub, Nat.reduceMul, Nat.reduceDiv, Nat.reduceMod, Nat.reduceLT, Nat.reduceLeDiff, Nat.reduceEqDiff, Nat.reduceBEq, Nat.reduceBNe, Nat.reduceGT, Int.reduceAdd, Int.reduceSub, Int.reduceMul, Int.reduceNeg, Int.reduceLT, Int.reduceLE, Int.reduceEq, Int.reduceNe, Int.reduceBEq, Int.reduceBNe, Int.reduceToNat, Int.reduceGT, Int.reduceGE, ↓reduceIte, decide_true, decide_false, hlt, hok]
          refine hQ1 _ _ ?_
          simp (decide := true) (maxSteps := 4000000) only [go_sem, Nat.reduceAdd, Nat.reduceSub, Nat.reduceMul, Nat.reduceDiv, Nat.reduceMod, Nat.reduceLT, Nat.reduceLeDiff, Nat.reduceEqDiff, Nat.reduceBEq, Nat.reduceBNe, Nat.reduceGT, Int.reduceAdd, Int.reduceSub, Int.reduceMul, Int.reduceNeg, Int.reduceLT, Int.reduceLE, Int.reduceEq, Int.reduceNe, Int.reduceBEq, Int.reduceBNe, Int.reduceToNat, Int.reduceGT, Int.reduceGE, ↓reduceIte, decide_true, decide_false, hr]
        | true =>
          simp (decide := true) (maxSteps := 4000000) only [go_sem, Nat.reduceAdd, Nat.reduceSub, Nat.reduceMul, Nat.reduceDiv, Nat.reduceMod, Nat.reduceLT, Nat.reduceLeDiff, Nat.reduceEqDiff, Nat.reduceBEq, Nat.reduceBNe, Nat.reduceGT, Int.reduceAdd, Int.reduceSub, Int.reduceMul, Int.reduceNeg, Int.reduceLT, Int.reduceLE, Int.reduceEq, Int.reduceNe, Int.reduceBEq, Int.reduceBNe, Int.reduceToNat, Int.reduceGT, Int.reduceGE, ↓reduceIte, decide_true, decide_false, hlt, hok]
          refine hQ1 _ _ ?_
          simp (decide := true) (maxSteps := 4000000) only [go_sem, Nat.reduceAdd, Nat.reduceSub, Nat.reduceMul, Nat.reduceDiv, Nat.reduceMod, Nat.reduceLT, Nat.reduceLeDiff, Nat.reduceEqDiff, Nat.reduceBEq, Nat.reduceBNe, Nat.reduceGT, Int.reduceAdd, Int.reduceSub, Int.reduceMul, Int.reduceNeg, Int.reduceLT, Int.reduceLE, Int.reduceEq, Int.reduceNe, Int.reduceBEq, Int.reduceBNe, Int.reduceToNat, Int.reduceGT, Int.reduceGE, ↓reduceIte, decide_true, decide_false]
          refine pwpC_loopU (A := { k : Nat // k ≤ st.length }) [1, 5, 10, 61, 62] (fun k => [(63, .t (.int .i64 k.1)), (11, .own ((offTo st pr rg fl k.1).flatMap Of.cs) (offTo st pr rg fl k.1).length 1)]) (fun k => [(1, .tok (offTo st pr rg fl k.1).length 107)]) (fun k => st.length - k.1) ⟨0, by omega⟩ (by decide) (fun _ => by rfl) ?_ fun Q2 hQ2 ⟨k, hk⟩ I2 hI2 => ?_
          · simp (decide := true) (maxSteps := 4000000) only [go_sem, Nat.reduceAdd, Nat.reduceSub, Nat.reduceMul, Nat.reduceDiv, Nat.reduceMod, Nat.reduceLT, Nat.reduceLeDiff, Nat.reduceEqDiff, Nat.reduceBEq, Nat.reduceBNe, Nat.reduceGT, Int.reduceAdd, Int.reduceSub, Int.reduceMul, Int.reduceNeg, Int.reduceLT, Int.reduceLE, Int.reduceEq, Int.reduceNe, Int.reduceBEq, Int.reduceBNe, Int.reduceToNat, Int.reduceGT, Int.reduceGE, ↓reduceIte, decide_true, decide_false]
            exact ⟨⟨rfl, rfl⟩, rfl⟩
          · have hle := offTo_le st pr rg fl k
            by_cases hlt : (k : Int) < st.length
            · obtain ⟨x, hx⟩ := get_lt hlt
              obtain ⟨y, hy⟩ := get_lt (l := pr) (k := k) (by omega)
              have hd := flat_at Vial.cs (n := 8) (fun _ => rfl) hx
              have hdy := flat_at ic (n := 1) (fun _ => rfl) hy
              rw [Nat.mul_one] at hdy
              have hv := okTo_ok hok (by omega) hx
              have hc1 : IntKind.i64.wrap (k + 1) = ((k + 1 : Nat) : Int) := by rw [wrap_in (by omega) (by omega)]; omega
              have hc : (List.flatMap Of.cs (offTo st pr rg fl k)).length = (offTo st pr rg fl k).length * 10 := flat_len Of.cs (n := 10) (fun _ => rfl) _
              have hr : ((offTo st pr rg fl k).length + 1) * 80 ≤ 140737488355328 := by omega
              cases hdo : doesP x rg fl with
              | false =>
                have ho : offTo st pr rg fl (k + 1) = offTo st pr rg fl k := offTo_f (by unfold offAt; rw [hx, hy]; simp [hdo])
                simp (decide := true) (maxSteps := 4000000) only [go_sem, Nat.reduceAdd, Nat.reduceSub, Nat.reduceMul, Nat.reduceDiv, Nat.reduceMod, Nat.reduceLT, Nat.reduceLeDiff, Nat.reduceEqDiff, Nat.reduceBEq, Nat.reduceBNe, Nat.reduceGT, Int.reduceAdd, Int.reduceSub, Int.reduceMul, Int.reduceNeg, Int.reduceLT, Int.reduceLE, Int.reduceEq, Int.reduceNe, Int.reduceBEq, Int.reduceBNe, Int.reduceToNat, Int.reduceGT, Int.reduceGE, ↓reduceIte, decide_true, decide_false, eq_self, Nat.mul_one, Nat.zero_mul, Nat.one_mul, Int.le_refl, Nat.le_refl, Int.cast_ofNat_Int, hlt, hd, hdy, Vial.cs, ic, hv, hdo, hc, hr]
                refine hI2 _ ⟨k + 1, by omega⟩ (by simp only; omega) ?_
                simp (decide := true) (maxSteps := 4000000) only [go_sem, Nat.reduceAdd, Nat.reduceSub, Nat.reduceMul, Nat.reduceDiv, Nat.reduceMod, Nat.reduceLT, Nat.reduceLeDiff, Nat.reduceEqDiff, Nat.reduceBEq, Nat.reduceBNe, Nat.reduceGT, Int.reduceAdd, Int.reduceSub, Int.reduceMul, Int.reduceNeg, Int.reduceLT, Int.reduceLE, Int.reduceEq, Int.reduceNe, Int.reduceBEq, Int.reduceBNe, Int.reduceToNat, Int.reduceGT, Int.reduceGE, ↓reduceIte, decide_true, decide_false, eq_self, Nat.mul_one, Nat.zero_mul, Nat.one_mul, Int.le_refl, Nat.le_refl, Int.cast_ofNat_Int, hc1, ho]
              | true =>
                have ho : offTo st pr rg fl (k + 1) = offTo st pr rg fl k ++ [⟨x, k, y⟩] := offTo_t (by unfold offAt; rw [hx, hy]; simp [hdo])
                simp (decide := true) (maxSteps := 4000000) only [go_sem, Nat.reduceAdd, Nat.reduceSub, Nat.reduceMul, Nat.reduceDiv, Nat.reduceMod, Nat.reduceLT, Nat.reduceLeDiff, Nat.reduceEqDiff, Nat.reduceBEq, Nat.reduceBNe, Nat.reduceGT, Int.reduceAdd, Int.reduceSub, Int.reduceMul, Int.reduceNeg, Int.reduceLT, Int.reduceLE, Int.reduceEq, Int.reduceNe, Int.reduceBEq, Int.reduceBNe, Int.reduceToNat, Int.reduceGT, Int.reduceGE, ↓reduceIte, decide_true, decide_false, eq_self, Nat.mul_one, Nat.zero_mul, Nat.one_mul, Int.le_refl, Nat.le_refl, Int.cast_ofNat_Int, hlt, hd, hdy, Vial.cs, ic, hv, hdo, hc, hr]
                refine hI2 _ ⟨k + 1, by omega⟩ (by simp only; omega) ?_
                simp (decide := true) (maxSteps := 4000000) only [go_sem, Nat.reduceAdd, Nat.reduceSub, Nat.reduceMul, Nat.reduceDiv, Nat.reduceMod, Nat.reduceLT, Nat.reduceLeDiff, Nat.reduceEqDiff, Nat.reduceBEq, Nat.reduceBNe, Nat.reduceGT, Int.reduceAdd, Int.reduceSub, Int.reduceMul, Int.reduceNeg, Int.reduceLT, Int.reduceLE, Int.reduceEq, Int.reduceNe, Int.reduceBEq, Int.reduceBNe, Int.reduceToNat, Int.reduceGT, Int.reduceGE, ↓reduceIte, decide_true, decide_false, eq_self, Nat.mul_one, Nat.zero_mul, Nat.one_mul, Int.le_refl, Nat.le_refl, Int.cast_ofNat_Int, hc1, ho, List.flatMap_append, List.flatMap_cons, List.flatMap_nil, List.length_append, List.length_cons, List.length_nil, Of.cs]
            · have hkl : k = st.length := by omega
              subst hkl
              have hle' : (offTo st pr rg fl st.length).length ≤ 1000 := by omega
              simp (decide := true) (maxSteps := 4000000) only [go_sem, Nat.reduceAdd, Nat.reduceSub, Nat.reduceMul, Nat.reduceDiv, Nat.reduceMod, Nat.reduceLT, Nat.reduceLeDiff, Nat.reduceEqDiff, Nat.reduceBEq, Nat.reduceBNe, Nat.reduceGT, Int.reduceAdd, Int.reduceSub, Int.reduceMul, Int.reduceNeg, Int.reduceLT, Int.reduceLE, Int.reduceEq, Int.reduceNe, Int.reduceBEq, Int.reduceBNe, Int.reduceToNat, Int.reduceGT, Int.reduceGE, ↓reduceIte, decide_true, decide_false, eq_self, Nat.mul_one, Nat.zero_mul, Nat.one_mul, Int.le_refl, Nat.le_refl, Int.cast_ofNat_Int, hlt]
              refine hQ2 _ _ ?_
              rcases Nat.eq_zero_or_pos (offTo st pr rg fl st.length).length with h0 | h0
              · have h00 : offTo st pr rg fl st.length = [] := List.length_eq_zero_iff.1 h0
                have hr : chooseP st pr rg fl = (0, 4) := by unfold chooseP; rw [hok, h00]; rfl
                have hun : unOfs [] = some [] := rfl
                have hbn : bestOf [] = none := rfl
                simp (decide := true) (maxSteps := 4000000) only [go_sem, Nat.reduceAdd, Nat.reduceSub, Nat.reduceMul, Nat.reduceDiv, Nat.reduceMod, Nat.reduceLT, Nat.reduceLeDiff, Nat.reduceEqDiff, Nat.reduceBEq, Nat.reduceBNe, Nat.reduceGT, Int.reduceAdd, Int.reduceSub, Int.reduceMul, Int.reduceNeg, Int.reduceLT, Int.reduceLE, Int.reduceEq, Int.reduceNe, Int.reduceBEq, Int.reduceBNe, Int.reduceToNat, Int.reduceGT, Int.reduceGE, ↓reduceIte, decide_true, decide_false, eq_self, Nat.mul_one, Nat.zero_mul, Nat.one_mul, Int.le_refl, Nat.le_refl, Int.cast_ofNat_Int, h00, hr, hun, hbn, Of.cs, Of.zero, Option.getD_none, List.length_nil]
              · obtain ⟨y, hy⟩ := best_some h0
                have hr : chooseP st pr rg fl = (y.i, 0) := by unfold chooseP; rw [hok, hy]; rfl
                have h01 : ((offTo st pr rg fl st.length).length : Int) > 0 := by omega
                have h02 : ¬ (offTo st pr rg fl st.length).length = 0 := by omega
                simp (decide := true) (maxSteps := 4000000) only [go_sem, Nat.reduceAdd, Nat.reduceSub, Nat.reduceMul, Nat.reduceDiv, Nat.reduceMod, Nat.reduceLT, Nat.reduceLeDiff, Nat.reduceEqDiff, Nat.reduceBEq, Nat.reduceBNe, Nat.reduceGT, Int.reduceAdd, Int.reduceSub, Int.reduceMul, Int.reduceNeg, Int.reduceLT, Int.reduceLE, Int.reduceEq, Int.reduceNe, Int.reduceBEq, Int.reduceBNe, Int.reduceToNat, Int.reduceGT, Int.reduceGE, ↓reduceIte, decide_true, decide_false, eq_self, Nat.mul_one, Nat.zero_mul, Nat.one_mul, Int.le_refl, Nat.le_refl, Int.cast_ofNat_Int, hr, Of.cs, Of.zero, hy, h01, h02, hle']
end Go.Proofs.Ytgofljmnlfnlnaa

/- Part Lj. -/
namespace Go.Oc
open Go Go.Pm
def unI : List TV → Option (List Int)
  | [] => some []
  | .int .i64 a :: r => (unI r).map (a :: ·)
  | _ => none
theorem unI_eq : ∀ l : List Int, unI (ints l) = some l
  | [] => rfl
  | x :: l => by have := unI_eq l; unfold ints at this ⊢; simp [unI, this]
theorem unI_some : ∀ {cs : List TV} {l : List Int}, unI cs = some l → cs = l.flatMap ic := by
  intro cs
  induction cs using unI.induct with
  | case1 => intro l h; simp [unI] at h; subst h; rfl
  | case2 a r ih =>
    intro l h
    simp only [unI, Option.map_eq_some_iff] at h
    obtain ⟨l', h1, rfl⟩ := h
    rw [ih h1]; rfl
  | case3 r h1 h2 =>
    intro l h
    unfold unI at h
    split at h
    · exact absurd rfl h1
    · exact absurd rfl (h2 _ _)
    · cases h
attribute [go_sem] unI_eq
def exV : Vial := ⟨40, 16, 20, 50, 52, 38, 42, 1⟩
def exO : Vial := ⟨60, 20, 24, 20, 20, 58, 62, 1⟩
def exR : List Rd := [⟨14, 32, false⟩, ⟨9, 27, true⟩, ⟨5, 23, true⟩]
end Go.Oc
namespace Go.Proofs.Ytgofljmnlfnlnaa
open Go.RowKit Go.Pm Go.Oc
set_option maxRecDepth 100000
set_option linter.unusedVariables false
set_option maxHeartbeats 4000000

theorem Same_d {a b : List Int} {s t : TV} (hs : IsRow ic s a) (ht : IsRow ic t b) (ha : a.length ≤ 9223372036854775806) : PCalls Try.prog 25 [s, t] (.bool (decide (a = b))) := by
  rcases hs with ⟨rfl, rfl⟩ | ⟨fa, rfl⟩ <;> rcases ht with ⟨rfl, rfl⟩ | ⟨fb, rfl⟩
  · refine pcalls_by Try.mixes noSpec_ok (fn := Try.f25) Try.func25 rfl (by kernel_rfl) (by show 2 ≤ _; decide) ?_
    simp (decide := true) (maxSteps := 4000000) only [go_sem, Nat.reduceAdd, Nat.reduceSub, Nat.reduceMul, Nat.reduceDiv, Nat.reduceMod, Nat.reduceLT, Nat.reduceLeDiff, Nat.reduceEqDiff, Nat.reduceBEq, Nat.reduceBNe, Nat.reduceGT, Int.reduceAdd, Int.reduceSub, Int.reduceMul, Int.reduceNeg, Int.reduceLT, Int.reduceLE, Int.reduceEq, Int.reduceNe, Int.reduceBEq, Int.reduceBNe, Int.reduceToNat, Int.reduceGT, Int.reduceGE, ↓reduceIte, decide_true, decide_false, Try.f25]
    refine pwpC_loopU (A := Unit) [0, 1] (fun _ => [(5, .t (.int .i64 0))]) (fun _ => []) (fun _ => 0) () (by decide) (fun _ => by rfl) ?_ fun Q1 hQ1 k I1 hI1 => ?_
    · simp (decide := true) (maxSteps := 4000000) only [go_sem, Nat.reduceAdd, Nat.reduceSub, Nat.reduceMul, Nat.reduceDiv, Nat.reduceMod, Nat.reduceLT, Nat.reduceLeDiff, Nat.reduceEqDiff, Nat.reduceBEq, Nat.reduceBNe, Nat.reduceGT, Int.reduceAdd, Int.reduceSub, Int.reduceMul, Int.reduceNeg, Int.reduceLT, Int.reduceLE, Int.reduceEq, Int.reduceNe, Int.reduceBEq, Int.reduceBNe, Int.reduceToNat, Int.reduceGT, Int.reduceGE, ↓reduceIte, decide_true, decide_false]
    · simp (decide := true) (maxSteps := 4000000) only [go_sem, Nat.reduceAdd, Nat.reduceSub, Nat.reduceMul, Nat.reduceDiv, Nat.reduceMod, Nat.reduceLT, Nat.reduceLeDiff, Nat.reduceEqDiff, Nat.reduceBEq, Nat.reduceBNe, Nat.reduceGT, Int.reduceAdd, Int.reduceSub, Int.reduceMul, Int.reduceNeg, Int.reduceLT, Int.reduceLE, Int.reduceEq, Int.reduceNe, Int.reduceBEq, Int.reduceBNe, Int.reduceToNat, Int.reduceGT, Int.reduceGE, ↓reduceIte, decide_true, decide_false]
      first | done | (refine hQ1 _ _ ?_; simp (decide := true) (maxSteps := 4000000) only [go_sem, Nat.reduceAdd, Nat.reduceSub, Nat.reduceMul, Nat.reduceDiv, Nat.reduceMod, Nat.reduceLT, Nat.reduceLeDiff, Nat.reduceEqDiff, Nat.reduceBEq, Nat.reduceBNe, Nat.reduceGT, Int.reduceAdd, Int.reduceSub, Int.reduceMul, Int.reduceNeg, Int.reduceLT, Int.reduceLE, Int.reduceEq, Int.reduceNe, Int.reduceBEq, Int.reduceBNe, Int.reduceToNat, Int.reduceGT, Int.reduceGE, ↓reduceIte, decide_true, decide_false])
  · by_cases hb : b = []
    · subst hb
      refine pcalls_by Try.mixes noSpec_ok (fn := Try.f25) Try.func25 rfl (by kernel_rfl) (by show 2 ≤ _; decide) ?_
      simp (decide := true) (maxSteps := 4000000) only [go_sem, Nat.reduceAdd, Nat.reduceSub, Nat.reduceMul, Nat.reduceDiv, Nat.reduceMod, Nat.reduceLT, Nat.reduceLeDiff, Nat.reduceEqDiff, Nat.reduceBEq, Nat.reduceBNe, Nat.reduceGT, Int.reduceAdd, Int.reduceSub, Int.reduceMul, Int.reduceNeg, Int.reduceLT, Int.reduceLE, Int.reduceEq, Int.reduceNe, Int.reduceBEq, Int.reduceBNe, Int.reduceToNat, Int.reduceGT, Int.reduceGE, ↓reduceIte, decide_true, decide_false, eq_self, Nat.mul_one, Nat.zero_mul, Nat.one_mul, Int.le_refl, Nat.le_refl, Int.cast_ofNat_Int, Try.f25, List.length_nil, Int.cast_ofNat_Int, bne_self_eq_false]
      refine pwpC_loopU (A := Unit) [0, 1] (fun _ => [(5, .t (.int .i64 0))]) (fun _ => []) (fun _ => 0) () (by decide) (fun _ => by rfl) ?_ fun Q1 hQ1 k I1 hI1 => ?_
      · simp (decide := true) (maxSteps := 4000000) only [go_sem, Nat.reduceAdd, Nat.reduceSub, Nat.reduceMul, Nat.reduceDiv, Nat.reduceMod, Nat.reduceLT, Nat.reduceLeDiff, Nat.reduceEqDiff, Nat.reduceBEq, Nat.reduceBNe, Nat.reduceGT, Int.reduceAdd, Int.reduceSub, Int.reduceMul, Int.reduceNeg, Int.reduceLT, Int.reduceLE, Int.reduceEq, Int.reduceNe, Int.reduceBEq, Int.reduceBNe, Int.reduceToNat, Int.reduceGT, Int.reduceGE, ↓reduceIte, decide_true, decide_false]
      · simp (decide := true) (maxSteps := 4000000) only [go_sem, Nat.reduceAdd, Nat.reduceSub, Nat.reduceMul, Nat.reduceDiv, Nat.reduceMod, Nat.reduceLT, Nat.reduceLeDiff, Nat.reduceEqDiff, Nat.reduceBEq, Nat.reduceBNe, Nat.reduceGT, Int.reduceAdd, Int.reduceSub, Int.reduceMul, Int.reduceNeg, Int.reduceLT, Int.reduceLE, Int.reduceEq, Int.reduceNe, Int.reduceBEq, Int.reduceBNe, Int.reduceToNat, Int.reduceGT, Int.reduceGE, ↓reduceIte, decide_true, decide_false]
        first | done | (refine hQ1 _ _ ?_; simp (decide := true) (maxSteps := 4000000) only [go_sem, Nat.reduceAdd, Nat.reduceSub, Nat.reduceMul, Nat.reduceDiv, Nat.reduceMod, Nat.reduceLT, Nat.reduceLeDiff, Nat.reduceEqDiff, Nat.reduceBEq, Nat.reduceBNe, Nat.reduceGT, Int.reduceAdd, Int.reduceSub, Int.reduceMul, Int.reduceNeg, Int.reduceLT, Int.reduceLE, Int.reduceEq, Int.reduceNe, Int.reduceBEq, Int.reduceBNe, Int.reduceToNat, Int.reduceGT, Int.reduceGE, ↓reduceIte, decide_true, decide_false])
    · have h0 : b.length ≠ 0 := by simpa using hb
      have h1 : ((0 : Int) != b.length) = true := by simp; omega
      have h2 : decide ([] = b) = false := by simp; exact hb
      refine pcalls_by Try.mixes noSpec_ok (fn := Try.f25) Try.func25 rfl (by kernel_rfl) (by show 2 ≤ _; decide) ?_
      simp (decide := true) (maxSteps := 4000000) only [go_sem, Nat.reduceAdd, Nat.reduceSub, Nat.reduceMul, Nat.reduceDiv, Nat.reduceMod, Nat.reduceLT, Nat.reduceLeDiff, Nat.reduceEqDiff, Nat.reduceBEq, Nat.reduceBNe, Nat.reduceGT, Int.reduceAdd, Int.reduceSub, Int.reduceMul, Int.reduceNeg, Int.reduceLT, Int.reduceLE, Int.reduceEq, Int.reduceNe, Int.reduceBEq, Int.reduceBNe, Int.reduceToNat, Int.reduceGT, Int.reduceGE, ↓reduceIte, decide_true, decide_false, Try.f25, h1, h2]
  · by_cases hb : a = []
    · subst hb
      refine pcalls_by Try.mixes noSpec_ok (fn := Try.f25) Try.func25 rfl (by kernel_rfl) (by show 2 ≤ _; decide) ?_
      simp (decide := true) (maxSteps := 4000000) only [go_sem, Nat.reduceAdd, Nat.reduceSub, Nat.reduceMul, Nat.reduceDiv, Nat.reduceMod, Nat.reduceLT, Nat.reduceLeDiff, Nat.reduceEqDiff, Nat.reduceBEq, Nat.reduceBNe, Nat.reduceGT, Int.reduceAdd, Int.reduceSub, Int.reduceMul, Int.reduceNeg, Int.reduceLT, Int.reduceLE, Int.reduceEq, Int.reduceNe, Int.reduceBEq, Int.reduceBNe, Int.reduceToNat, Int.reduceGT, Int.reduceGE, ↓reduceIte, decide_true, decide_false, eq_self, Nat.mul_one, Nat.zero_mul, Nat.one_mul, Int.le_refl, Nat.le_refl, Int.cast_ofNat_Int, Try.f25, List.length_nil, Int.cast_ofNat_Int, bne_self_eq_false]
      refine pwpC_loopU (A := Unit) [0, 1] (fun _ => [(5, .t (.int .i64 0))]) (fun _ => []) (fun _ => 0) () (by decide) (fun _ => by rfl) ?_ fun Q1 hQ1 k I1 hI1 => ?_
      · simp (decide := true) (maxSteps := 4000000) only [go_sem, Nat.reduceAdd, Nat.reduceSub, Nat.reduceMul, Nat.reduceDiv, Nat.reduceMod, Nat.reduceLT, Nat.reduceLeDiff, Nat.reduceEqDiff, Nat.reduceBEq, Nat.reduceBNe, Nat.reduceGT, Int.reduceAdd, Int.reduceSub, Int.reduceMul, Int.reduceNeg, Int.reduceLT, Int.reduceLE, Int.reduceEq, Int.reduceNe, Int.reduceBEq, Int.reduceBNe, Int.reduceToNat, Int.reduceGT, Int.reduceGE, ↓reduceIte, decide_true, decide_false]
      · simp (decide := true) (maxSteps := 4000000) only [go_sem, Nat.reduceAdd, Nat.reduceSub, Nat.reduceMul, Nat.reduceDiv, Nat.reduceMod, Nat.reduceLT, Nat.reduceLeDiff, Nat.reduceEqDiff, Nat.reduceBEq, Nat.reduceBNe, Nat.reduceGT, Int.reduceAdd, Int.reduceSub, Int.reduceMul, Int.reduceNeg, Int.reduceLT, Int.reduceLE, Int.reduceEq, Int.reduceNe, Int.reduceBEq, Int.reduceBNe, Int.reduceToNat, Int.reduceGT, Int.reduceGE, ↓reduceIte, decide_true, decide_false]
        first | done | (refine hQ1 _ _ ?_; simp (decide := true) (maxSteps := 4000000) only [go_sem, Nat.reduceAdd, Nat.reduceSub, Nat.reduceMul, Nat.reduceDiv, Nat.reduceMod, Nat.reduceLT, Nat.reduceLeDiff, Nat.reduceEqDiff, Nat.reduceBEq, Nat.reduceBNe, Nat.reduceGT, Int.reduceAdd, Int.reduceSub, Int.reduceMul, Int.reduceNeg, Int.reduceLT, Int.reduceLE, Int.reduceEq, Int.reduceNe, Int.reduceBEq, Int.reduceBNe, Int.reduceToNat, Int.reduceGT, Int.reduceGE, ↓reduceIte, decide_true, decide_false])
    · have h0 : a.length ≠ 0 := by simpa using hb
      have h1 : ((a.length : Int) != 0) = true := by simp; omega
      have h2 : decide (a = []) = false := by simpa using hb
      refine pcalls_by Try.mixes noSpec_ok (fn := Try.f25) Try.func25 rfl (by kernel_rfl) (by show 2 ≤ _; decide) ?_
      simp (decide := true) (maxSteps := 4000000) only [go_sem, Nat.reduceAdd, Nat.reduceSub, Nat.reduceMul, Nat.reduceDiv, Nat.reduceMod, Nat.reduceLT, Nat.reduceLeDiff, Nat.reduceEqDiff, Nat.reduceBEq, Nat.reduceBNe, Nat.reduceGT, Int.reduceAdd, Int.reduceSub, Int.reduceMul, Int.reduceNeg, Int.reduceLT, Int.reduceLE, Int.reduceEq, Int.reduceNe, Int.reduceBEq, Int.reduceBNe, Int.reduceToNat, Int.reduceGT, Int.reduceGE, ↓reduceIte, decide_true, decide_false, Try.f25, h1, h2]
  · rw [ic_ints, ic_ints]; exact Same_c a b fa fb ha
noncomputable def gSame : List TV → Option TV
  | [s, t] => match rowL unI s, rowL unI t with
    | some a, some b => if a.length ≤ 9223372036854775806 then some (.bool (decide (a = b))) else none
    | _, _ => none
  | _ => none
theorem gSame_ok : ∀ xs r, gSame xs = some r → PCalls Try.prog 25 xs r := by
  intro xs r h
  unfold gSame at h
  split at h
  · split at h
    · rename_i a b ha hb
      split at h
      · rename_i hc; cases h; exact Same_d (rowL_some (un := unI) rfl (@unI_some) ha) (rowL_some (un := unI) rfl (@unI_some) hb) hc
      · cases h
    · cases h
  · cases h
attribute [go_sem] gSame

noncomputable def glTilt : List TV → Option TV
  | [.agg [.int .i64 m, .int .i64 a, .int .i64 b, .int .i64 c, .int .i64 d, .int .i64 e, .int .i64 f, .int .i64 g], s] => match rowL unRds s with
    | some l => if l.length ≤ 5864062014806 then some ((tiltR ⟨m, a, b, c, d, e, f, g⟩ l).t) else none
    | none => none
  | _ => none
theorem glTilt_ok : ∀ xs r, glTilt xs = some r → PCalls Try.prog 20 xs r := by
  intro xs r h
  unfold glTilt at h
  split at h
  · split at h
    · rename_i l hl
      have hl := rowL_some (un := unRds) rfl (@unRds_some) hl
      split at h
      · rename_i hc; cases h; exact lTilt_c ⟨_, _, _, _, _, _, _, _⟩ hl hc
      · cases h
    · cases h
  · cases h
attribute [go_sem] glTilt
noncomputable def glCan : List TV → Option TV
  | [.agg [.int .i64 m, .int .i64 a, .int .i64 b, .int .i64 c, .int .i64 d, .int .i64 e, .int .i64 f, .int .i64 g], s, .agg [.int .i64 tv, .int .i64 tz, .int .i64 tt]] => match rowL unRds s with
    | some l => if l.length ≤ 5864062014806 then some (.tup [.bool (canP ⟨m, a, b, c, d, e, f, g⟩ l tv tz tt).1, .int .i64 (canP ⟨m, a, b, c, d, e, f, g⟩ l tv tz tt).2]) else none
    | none => none
  | _ => none
theorem glCan_ok : ∀ xs r, glCan xs = some r → PCalls Try.prog 16 xs r := by
  intro xs r h
  unfold glCan at h
  split at h
  · split at h
    · rename_i l hl
      have hl := rowL_some (un := unRds) rfl (@unRds_some) hl
      split at h
      · rename_i hc; cases h; exact lCan_c ⟨_, _, _, _, _, _, _, _⟩ hl hc _ _ _
      · cases h
    · cases h
  · cases h
attribute [go_sem] glCan
noncomputable def glNext : List TV → Option TV
  | [.agg [.int .i64 m, .int .i64 a, .int .i64 b, .int .i64 c, .int .i64 d, .int .i64 e, .int .i64 f, .int .i64 g], s] => match rowL unRds s with
    | some l => if l.length ≤ 5864062014806 then some (.tup [.bool (nextP ⟨m, a, b, c, d, e, f, g⟩ l).1, .int .i64 (nextP ⟨m, a, b, c, d, e, f, g⟩ l).2.1, .int .i64 (nextP ⟨m, a, b, c, d, e, f, g⟩ l).2.2]) else none
    | none => none
  | _ => none
theorem glNext_ok : ∀ xs r, glNext xs = some r → PCalls Try.prog 26 xs r := by
  intro xs r h
  unfold glNext at h
  split at h
  · split at h
    · rename_i l hl
      have hl := rowL_some (un := unRds) rfl (@unRds_some) hl
      split at h
      · rename_i hc; cases h; exact lNext_c ⟨_, _, _, _, _, _, _, _⟩ hl hc
      · cases h
    · cases h
  · cases h
attribute [go_sem] glNext
noncomputable def glFalse : List TV → Option TV
  | [.agg [.int .i64 m, .int .i64 a, .int .i64 b, .int .i64 c, .int .i64 d, .int .i64 e, .int .i64 f, .int .i64 g], s] => match rowL unRds s with
    | some l => if l.length ≤ 5864062014806 then some (.tup [(falseP ⟨m, a, b, c, d, e, f, g⟩ l).1, .int .i64 (falseP ⟨m, a, b, c, d, e, f, g⟩ l).2]) else none
    | none => none
  | _ => none
theorem glFalse_ok : ∀ xs r, glFalse xs = some r → PCalls Try.prog 23 xs r := by
  intro xs r h
  unfold glFalse at h
  split at h
  · split at h
    · rename_i l hl
      have hl := rowL_some (un := unRds) rfl (@unRds_some) hl
      split at h
      · rename_i hc; cases h; exact lFalse_c ⟨_, _, _, _, _, _, _, _⟩ hl hc
      · cases h
    · cases h
  · cases h
attribute [go_sem] glFalse
noncomputable def glClicks : List TV → Option TV
  | [.agg [.int .i64 a, .int .i64 b], .int .i64 w, .int .i64 c] => some (.tup [.int .i64 (clicksP ⟨a, b⟩ w c).1, .int .i64 (clicksP ⟨a, b⟩ w c).2])
  | _ => none
theorem glClicks_ok : ∀ xs r, glClicks xs = some r → PCalls Try.prog 28 xs r := by
  intro xs r h
  unfold glClicks at h
  split at h
  · cases h; exact lClicks_c ⟨_, _⟩ _ _
  · cases h
attribute [go_sem] glClicks
noncomputable def glChoose : List TV → Option TV
  | [s, t, .agg [.int .i64 rg, .int .i64 fl]] => match rowL unVials s, rowL unI t with
    | some a, some b => if a.length ≤ 2199023255552 then some (.tup [.int .i64 (chooseP a b rg fl).1, .int .i64 (chooseP a b rg fl).2]) else none
    | _, _ => none
  | _ => none
theorem glChoose_ok : ∀ xs r, glChoose xs = some r → PCalls Try.prog 30 xs r := by
  intro xs r h
  unfold glChoose at h
  split at h
  · split at h
    · rename_i a b ha hb
      split at h
      · rename_i hc; cases h; exact lChoose_c (rowL_some (un := unVials) rfl (@unVials_some) ha) (rowL_some (un := unI) rfl (@unI_some) hb) _ _ hc
      · cases h
    · cases h
  · cases h
attribute [go_sem] glChoose
noncomputable def spJ1 : Pm.Spec := (((((((spB3.one 25 gSame).one 18 glCheck).one 20 glTilt).one 16 glCan).one 26 glNext).one 23 glFalse).one 28 glClicks).one 30 glChoose
@[go_sem] theorem spJ1_p (f : FuncId) (xs : List TV) : spJ1.p f xs = Pm.Spec.p ((((((((spB3.one 25 gSame).one 18 glCheck).one 20 glTilt).one 16 glCan).one 26 glNext).one 23 glFalse).one 28 glClicks).one 30 glChoose) f xs := rfl
@[go_sem] theorem spJ1_h (f : FuncId) (ps : List PV) (hl : List PO) : spJ1.h f ps hl = Pm.Spec.h ((((((((spB3.one 25 gSame).one 18 glCheck).one 20 glTilt).one 16 glCan).one 26 glNext).one 23 glFalse).one 28 glClicks).one 30 glChoose) f ps hl := rfl
@[go_sem] theorem spJ1_fz (f : FuncId) : spJ1.fz f = Pm.Spec.fz ((((((((spB3.one 25 gSame).one 18 glCheck).one 20 glTilt).one 16 glCan).one 26 glNext).one 23 glFalse).one 28 glClicks).one 30 glChoose) f := rfl
@[go_sem] theorem spJ1_fr (f : FuncId) : spJ1.fr f = Pm.Spec.fr ((((((((spB3.one 25 gSame).one 18 glCheck).one 20 glTilt).one 16 glCan).one 26 glNext).one 23 glFalse).one 28 glClicks).one 30 glChoose) f := rfl
@[go_sem] theorem spJ1_mu (t : TypeId) : spJ1.mu t = Pm.Spec.mu ((((((((spB3.one 25 gSame).one 18 glCheck).one 20 glTilt).one 16 glCan).one 26 glNext).one 23 glFalse).one 28 glClicks).one 30 glChoose) t := rfl
theorem spJ1_ok : SpecOk Try.prog spJ1 := Spec.one_ok glChoose_ok (Spec.one_ok glClicks_ok (Spec.one_ok glFalse_ok (Spec.one_ok glNext_ok (Spec.one_ok glCan_ok (Spec.one_ok glTilt_ok (Spec.one_ok glCheck_ok (Spec.one_ok gSame_ok spB3_ok)))))))

theorem oTo_c (a b : Int) : PCalls Try.prog 44 [.int .i64 a, .int .i64 b] (.agg [.int .i64 a, .int .i64 b]) := by
  refine pcalls_by Try.mixes noSpec_ok (fn := Try.f44) Try.func44 rfl (by kernel_rfl) (by show 2 ≤ _; decide) ?_
  simp (decide := true) (maxSteps := 4000000) only [go_sem, Nat.reduceAdd, Nat.reduceSub, Nat.reduceMul, Nat.reduceDiv, Nat.reduceMod, Nat.reduceLT, Nat.reduceLeDiff, Nat.reduceEqDiff, Nat.reduceBEq, Nat.reduceBNe, Nat.reduceGT, Int.reduceAdd, Int.reduceSub, Int.reduceMul, Int.reduceNeg, Int.reduceLT, Int.reduceLE, Int.reduceEq, Int.reduceNe, Int.reduceBEq, Int.reduceBNe, Int.reduceToNat, Int.reduceGT, Int.reduceGE, ↓reduceIte, decide_true, decide_false, Try.f44]
noncomputable def goTo : List TV → Option TV
  | [.int .i64 a, .int .i64 b] => some (.agg [.int .i64 a, .int .i64 b])
  | _ => none
theorem goTo_ok : ∀ xs r, goTo xs = some r → PCalls Try.prog 44 xs r := by
  intro xs r h
  unfold goTo at h
  split at h
  · cases h; exact oTo_c _ _
  · cases h
attribute [go_sem] goTo
noncomputable def spJ2 : Pm.Spec := spJ1.one 44 goTo
@[go_sem] theorem spJ2_p (f : FuncId) (xs : List TV) : spJ2.p f xs = Pm.Spec.p (spJ1.one 44 goTo) f xs := rfl
@[go_sem] theorem spJ2_h (f : FuncId) (ps : List PV) (hl : List PO) : spJ2.h f ps hl = Pm.Spec.h (spJ1.one 44 goTo) f ps hl := rfl
@[go_sem] theorem spJ2_fz (f : FuncId) : spJ2.fz f = Pm.Spec.fz (spJ1.one 44 goTo) f := rfl
@[go_sem] theorem spJ2_fr (f : FuncId) : spJ2.fr f = Pm.Spec.fr (spJ1.one 44 goTo) f := rfl
@[go_sem] theorem spJ2_mu (t : TypeId) : spJ2.mu t = Pm.Spec.mu (spJ1.one 44 goTo) t := rfl
theorem spJ2_ok : SpecOk Try.prog spJ2 := Spec.one_ok goTo_ok spJ1_ok
theorem oVial_c : PCalls Try.prog 43 [] exV.t := by
  refine pcalls_by Try.mixes spJ2_ok (fn := Try.f43) Try.func43 rfl (by kernel_rfl) (by show 0 ≤ _; decide) ?_
  simp (decide := true) (maxSteps := 4000000) only [go_sem, Nat.reduceAdd, Nat.reduceSub, Nat.reduceMul, Nat.reduceDiv, Nat.reduceMod, Nat.reduceLT, Nat.reduceLeDiff, Nat.reduceEqDiff, Nat.reduceBEq, Nat.reduceBNe, Nat.reduceGT, Int.reduceAdd, Int.reduceSub, Int.reduceMul, Int.reduceNeg, Int.reduceLT, Int.reduceLE, Int.reduceEq, Int.reduceNe, Int.reduceBEq, Int.reduceBNe, Int.reduceToNat, Int.reduceGT, Int.reduceGE, ↓reduceIte, decide_true, decide_false, Try.f43, exV, Vial.t, Vial.cs]
theorem oOther_c : PCalls Try.prog 46 [] exO.t := by
  refine pcalls_by Try.mixes spJ2_ok (fn := Try.f46) Try.func46 rfl (by kernel_rfl) (by show 0 ≤ _; decide) ?_
  simp (decide := true) (maxSteps := 4000000) only [go_sem, Nat.reduceAdd, Nat.reduceSub, Nat.reduceMul, Nat.reduceDiv, Nat.reduceMod, Nat.reduceLT, Nat.reduceLeDiff, Nat.reduceEqDiff, Nat.reduceBEq, Nat.reduceBNe, Nat.reduceGT, Int.reduceAdd, Int.reduceSub, Int.reduceMul, Int.reduceNeg, Int.reduceLT, Int.reduceLE, Int.reduceEq, Int.reduceNe, Int.reduceBEq, Int.reduceBNe, Int.reduceToNat, Int.reduceGT, Int.reduceGE, ↓reduceIte, decide_true, decide_false, Try.f46, exO, Vial.t, Vial.cs]
theorem oReadings_c : PCalls Try.prog 45 [] (.sl (exR.flatMap Rd.cs) 3 true) := by
  refine pcalls_by Try.mixes spJ2_ok (fn := Try.f45) Try.func45 rfl (by kernel_rfl) (by show 0 ≤ _; decide) ?_
  simp (decide := true) (maxSteps := 4000000) only [go_sem, Nat.reduceAdd, Nat.reduceSub, Nat.reduceMul, Nat.reduceDiv, Nat.reduceMod, Nat.reduceLT, Nat.reduceLeDiff, Nat.reduceEqDiff, Nat.reduceBEq, Nat.reduceBNe, Nat.reduceGT, Int.reduceAdd, Int.reduceSub, Int.reduceMul, Int.reduceNeg, Int.reduceLT, Int.reduceLE, Int.reduceEq, Int.reduceNe, Int.reduceBEq, Int.reduceBNe, Int.reduceToNat, Int.reduceGT, Int.reduceGE, ↓reduceIte, decide_true, decide_false, Try.f45, exR, Rd.cs, List.flatMap_cons, List.flatMap_nil]
noncomputable def goVial : List TV → Option TV
  | [] => some (exV.t)
  | _ => none
theorem goVial_ok : ∀ xs r, goVial xs = some r → PCalls Try.prog 43 xs r := by
  intro xs r h
  unfold goVial at h
  split at h
  · cases h; exact oVial_c
  · cases h
attribute [go_sem] goVial
noncomputable def goOther : List TV → Option TV
  | [] => some (exO.t)
  | _ => none
theorem goOther_ok : ∀ xs r, goOther xs = some r → PCalls Try.prog 46 xs r := by
  intro xs r h
  unfold goOther at h
  split at h
  · cases h; exact oOther_c
  · cases h
attribute [go_sem] goOther
noncomputable def goReadings : List TV → Option TV
  | [] => some (.sl (exR.flatMap Rd.cs) 3 true)
  | _ => none
theorem goReadings_ok : ∀ xs r, goReadings xs = some r → PCalls Try.prog 45 xs r := by
  intro xs r h
  unfold goReadings at h
  split at h
  · cases h; exact oReadings_c
  · cases h
attribute [go_sem] goReadings
noncomputable def spJ3 : Pm.Spec := ((spJ2.one 43 goVial).one 46 goOther).one 45 goReadings
@[go_sem] theorem spJ3_p (f : FuncId) (xs : List TV) : spJ3.p f xs = Pm.Spec.p (((spJ2.one 43 goVial).one 46 goOther).one 45 goReadings) f xs := rfl
@[go_sem] theorem spJ3_h (f : FuncId) (ps : List PV) (hl : List PO) : spJ3.h f ps hl = Pm.Spec.h (((spJ2.one 43 goVial).one 46 goOther).one 45 goReadings) f ps hl := rfl
@[go_sem] theorem spJ3_fz (f : FuncId) : spJ3.fz f = Pm.Spec.fz (((spJ2.one 43 goVial).one 46 goOther).one 45 goReadings) f := rfl
@[go_sem] theorem spJ3_fr (f : FuncId) : spJ3.fr f = Pm.Spec.fr (((spJ2.one 43 goVial).one 46 goOther).one 45 goReadings) f := rfl
@[go_sem] theorem spJ3_mu (t : TypeId) : spJ3.mu t = Pm.Spec.mu (((spJ2.one 43 goVial).one 46 goOther).one 45 goReadings) t := rfl
theorem spJ3_ok : SpecOk Try.prog spJ3 := Spec.one_ok goReadings_ok (Spec.one_ok goOther_ok (Spec.one_ok goVial_ok spJ2_ok))
theorem ex1 : canP ⟨40, 16, 20, 50, 52, 38, 42, 1⟩ [⟨14, 32, false⟩, ⟨9, 27, true⟩] 50 40 250 = (true, 0) := by decide +kernel
theorem ex2 : tiltR ⟨40, 16, 20, 50, 52, 38, 42, 1⟩ [⟨14, 32, false⟩, ⟨9, 27, true⟩] = ⟨⟨200, 312⟩, ⟨40, 42⟩, 0⟩ := by decide +kernel
theorem ex3 : falseP ⟨40, 16, 20, 50, 52, 38, 42, 1⟩ [⟨14, 32, false⟩, ⟨9, 27, true⟩, ⟨5, 23, true⟩] = (.sl (ints [1, 2]) 2 false, 0) := by rfl
theorem ex4 : nextP ⟨40, 16, 20, 50, 52, 38, 42, 1⟩ [⟨14, 32, false⟩] = (true, 118, 0) := by decide +kernel
theorem ex5 : clicksP ⟨200, 312⟩ 20 60 = (-13, 0) := by decide +kernel
theorem ex6 : chooseP [⟨40, 16, 20, 50, 52, 38, 42, 1⟩, ⟨60, 20, 24, 20, 20, 58, 62, 1⟩] [30, 40] 600 300 = (1, 0) := by decide +kernel
theorem oWorks_c : PCalls Try.prog 22 [] (.bool true) := by
  refine pcalls_by Try.mixes spJ3_ok (fn := Try.f22) Try.func22 rfl (by kernel_rfl) (by show 0 ≤ _; decide) ?_
  simp (decide := true) (maxSteps := 4000000) only [go_sem, Nat.reduceAdd, Nat.reduceSub, Nat.reduceMul, Nat.reduceDiv, Nat.reduceMod, Nat.reduceLT, Nat.reduceLeDiff, Nat.reduceEqDiff, Nat.reduceBEq, Nat.reduceBNe, Nat.reduceGT, Int.reduceAdd, Int.reduceSub, Int.reduceMul, Int.reduceNeg, Int.reduceLT, Int.reduceLE, Int.reduceEq, Int.reduceNe, Int.reduceBEq, Int.reduceBNe, Int.reduceToNat, Int.reduceGT, Int.reduceGE, ↓reduceIte, decide_true, decide_false, eq_self, Nat.mul_one, Nat.zero_mul, Nat.one_mul, Int.le_refl, Nat.le_refl, Int.cast_ofNat_Int, Try.f22, exV, exO, exR, Vial.t, Vial.cs, Rd.cs, List.flatMap_cons, List.flatMap_nil, ex1, ex2, ex3, ex4, ex5, ex6, TE.t, Span.t, Span.cs, unRds, unVials, unI, ints, List.map_cons, List.map_nil]
end Go.Proofs.Ytgofljmnlfnlnaa

/- Part Lk. -/
namespace Go.Proofs.Ytgofljmnlfnlnaa
open Go.RowKit Go.Pm Go.Oc
set_option maxRecDepth 100000
set_option linter.unusedVariables false
set_option maxHeartbeats 4000000

theorem rClicks_c (t : Span) (worth bound : Int) : PCalls Try.prog 29 [t.t, .int .i64 worth, .int .i64 bound] (.tup [.int .i64 (clicksP t worth bound).1, .int .i64 (clicksP t worth bound).2]) := by
  refine pcalls_by Try.mixes spB3_ok (fn := Try.f29) Try.func29 rfl (by kernel_rfl) (by show 3 ≤ _; decide) ?_
  unfold clicksP
  cases h1 : spannedB t (-1000000) 1000000 with
  | false => simp (decide := true) (maxSteps := 4000000) only [go_sem, Nat.reduceAdd, Nat.reduceSub, Nat.reduceMul, Nat.reduceDiv, Nat.reduceMod, Nat.reduceLT, Nat.reduceLeDiff, Nat.reduceEqDiff, Nat.reduceBEq, Nat.reduceBNe, Nat.reduceGT, Int.reduceAdd, Int.reduceSub, Int.reduceMul, Int.reduceNeg, Int.reduceLT, Int.reduceLE, Int.reduceEq, Int.reduceNe, Int.reduceBEq, Int.reduceBNe, Int.reduceToNat, Int.reduceGT, Int.reduceGE, ↓reduceIte, decide_true, decide_false, Try.f29, Span.t, Span.cs, h1]
  | true =>
    cases h2 : inB worth 1 100 with
    | false => simp (decide := true) (maxSteps := 4000000) only [go_sem, Nat.reduceAdd, Nat.reduceSub, Nat.reduceMul, Nat.reduceDiv, Nat.reduceMod, Nat.reduceLT, Nat.reduceLeDiff, Nat.reduceEqDiff, Nat.reduceBEq, Nat.reduceBNe, Nat.reduceGT, Int.reduceAdd, Int.reduceSub, Int.reduceMul, Int.reduceNeg, Int.reduceLT, Int.reduceLE, Int.reduceEq, Int.reduceNe, Int.reduceBEq, Int.reduceBNe, Int.reduceToNat, Int.reduceGT, Int.reduceGE, ↓reduceIte, decide_true, decide_false, Try.f29, Span.t, Span.cs, h1, h2]
    | true =>
      cases h3 : inB bound 0 1000000 with
      | false => simp (decide := true) (maxSteps := 4000000) only [go_sem, Nat.reduceAdd, Nat.reduceSub, Nat.reduceMul, Nat.reduceDiv, Nat.reduceMod, Nat.reduceLT, Nat.reduceLeDiff, Nat.reduceEqDiff, Nat.reduceBEq, Nat.reduceBNe, Nat.reduceGT, Int.reduceAdd, Int.reduceSub, Int.reduceMul, Int.reduceNeg, Int.reduceLT, Int.reduceLE, Int.reduceEq, Int.reduceNe, Int.reduceBEq, Int.reduceBNe, Int.reduceToNat, Int.reduceGT, Int.reduceGE, ↓reduceIte, decide_true, decide_false, Try.f29, Span.t, Span.cs, h1, h2, h3]
      | true =>
        have h1' := h1
        have h2' := inB_iff.1 h2
        have h3' := inB_iff.1 h3
        simp only [spannedB, Bool.and_eq_true, decide_eq_true_eq] at h1'
        have w0 : IntKind.i64.wrap (0 - bound) = -bound := by rw [wrap_in (by omega) (by omega)]; omega
        have w1 : IntKind.i64.wrap (-bound - t.lo) = -bound - t.lo := wrap_in (by omega) (by omega)
        have w2 : IntKind.i64.wrap (bound - t.hi) = bound - t.hi := wrap_in (by omega) (by omega)
        have c0 : 0 < worth ∧ worth ≤ 4000000000000000000 := by omega
        have c1 : -4000000000000000000 ≤ -bound - t.lo ∧ -bound - t.lo ≤ 4000000000000000000 := by omega
        have c2 : -4000000000000000000 ≤ bound - t.hi ∧ bound - t.hi ≤ 4000000000000000000 := by omega
        by_cases g1 : -((-(-bound - t.lo)) / worth) > (bound - t.hi) / worth
        · simp (decide := true) (maxSteps := 4000000) only [go_sem, Nat.reduceAdd, Nat.reduceSub, Nat.reduceMul, Nat.reduceDiv, Nat.reduceMod, Nat.reduceLT, Nat.reduceLeDiff, Nat.reduceEqDiff, Nat.reduceBEq, Nat.reduceBNe, Nat.reduceGT, Int.reduceAdd, Int.reduceSub, Int.reduceMul, Int.reduceNeg, Int.reduceLT, Int.reduceLE, Int.reduceEq, Int.reduceNe, Int.reduceBEq, Int.reduceBNe, Int.reduceToNat, Int.reduceGT, Int.reduceGE, ↓reduceIte, decide_true, decide_false, Try.f29, Span.t, Span.cs, h1, h2, h3, w0, w1, w2, c0, c1, c2, g1]
        · by_cases g2 : -((-(-bound - t.lo)) / worth) > 0
          · simp (decide := true) (maxSteps := 4000000) only [go_sem, Nat.reduceAdd, Nat.reduceSub, Nat.reduceMul, Nat.reduceDiv, Nat.reduceMod, Nat.reduceLT, Nat.reduceLeDiff, Nat.reduceEqDiff, Nat.reduceBEq, Nat.reduceBNe, Nat.reduceGT, Int.reduceAdd, Int.reduceSub, Int.reduceMul, Int.reduceNeg, Int.reduceLT, Int.reduceLE, Int.reduceEq, Int.reduceNe, Int.reduceBEq, Int.reduceBNe, Int.reduceToNat, Int.reduceGT, Int.reduceGE, ↓reduceIte, decide_true, decide_false, Try.f29, Span.t, Span.cs, h1, h2, h3, w0, w1, w2, c0, c1, c2, g1, g2]
          · by_cases g3 : (bound - t.hi) / worth < 0
            · simp (decide := true) (maxSteps := 4000000) only [go_sem, Nat.reduceAdd, Nat.reduceSub, Nat.reduceMul, Nat.reduceDiv, Nat.reduceMod, Nat.reduceLT, Nat.reduceLeDiff, Nat.reduceEqDiff, Nat.reduceBEq, Nat.reduceBNe, Nat.reduceGT, Int.reduceAdd, Int.reduceSub, Int.reduceMul, Int.reduceNeg, Int.reduceLT, Int.reduceLE, Int.reduceEq, Int.reduceNe, Int.reduceBEq, Int.reduceBNe, Int.reduceToNat, Int.reduceGT, Int.reduceGE, ↓reduceIte, decide_true, decide_false, Try.f29, Span.t, Span.cs, h1, h2, h3, w0, w1, w2, c0, c1, c2, g1, g2, g3]
              omega
            · simp (decide := true) (maxSteps := 4000000) only [go_sem, Nat.reduceAdd, Nat.reduceSub, Nat.reduceMul, Nat.reduceDiv, Nat.reduceMod, Nat.reduceLT, Nat.reduceLeDiff, Nat.reduceEqDiff, Nat.reduceBEq, Nat.reduceBNe, Nat.reduceGT, Int.reduceAdd, Int.reduceSub, Int.reduceMul, Int.reduceNeg, Int.reduceLT, Int.reduceLE, Int.reduceEq, Int.reduceNe, Int.reduceBEq, Int.reduceBNe, Int.reduceToNat, Int.reduceGT, Int.reduceGE, ↓reduceIte, decide_true, decide_false, Try.f29, Span.t, Span.cs, h1, h2, h3, w0, w1, w2, c0, c1, c2, g1, g2, g3]
              omega
noncomputable def grClicks : List TV → Option TV
  | [.agg [.int .i64 a, .int .i64 b], .int .i64 w, .int .i64 c] => some (.tup [.int .i64 (clicksP ⟨a, b⟩ w c).1, .int .i64 (clicksP ⟨a, b⟩ w c).2])
  | _ => none
theorem grClicks_ok : ∀ xs r, grClicks xs = some r → PCalls Try.prog 29 xs r := by
  intro xs r h
  unfold grClicks at h
  split at h
  · cases h; exact rClicks_c ⟨_, _⟩ _ _
  · cases h
attribute [go_sem] grClicks
noncomputable def goWorks : List TV → Option TV
  | [] => some (.bool true)
  | _ => none
theorem goWorks_ok : ∀ xs r, goWorks xs = some r → PCalls Try.prog 22 xs r := by
  intro xs r h
  unfold goWorks at h
  split at h
  · cases h; exact oWorks_c
  · cases h
attribute [go_sem] goWorks
noncomputable def spK1 : Pm.Spec := (spJ3.one 22 goWorks).one 29 grClicks
@[go_sem] theorem spK1_p (f : FuncId) (xs : List TV) : spK1.p f xs = Pm.Spec.p ((spJ3.one 22 goWorks).one 29 grClicks) f xs := rfl
@[go_sem] theorem spK1_h (f : FuncId) (ps : List PV) (hl : List PO) : spK1.h f ps hl = Pm.Spec.h ((spJ3.one 22 goWorks).one 29 grClicks) f ps hl := rfl
@[go_sem] theorem spK1_fz (f : FuncId) : spK1.fz f = Pm.Spec.fz ((spJ3.one 22 goWorks).one 29 grClicks) f := rfl
@[go_sem] theorem spK1_fr (f : FuncId) : spK1.fr f = Pm.Spec.fr ((spJ3.one 22 goWorks).one 29 grClicks) f := rfl
@[go_sem] theorem spK1_mu (t : TypeId) : spK1.mu t = Pm.Spec.mu ((spJ3.one 22 goWorks).one 29 grClicks) t := rfl
theorem spK1_ok : SpecOk Try.prog spK1 := Spec.one_ok grClicks_ok (Spec.one_ok goWorks_ok spJ3_ok)
theorem LevelClicks_c (t : Span) (w c : Int) : PCalls Try.prog 6 [t.t, .int .i64 w, .int .i64 c] (.bool true) := by
  refine pcalls_by Try.mixes spK1_ok (fn := Try.f6) Try.func6 rfl (by kernel_rfl) (by show 3 ≤ _; decide) ?_
  simp (decide := true) (maxSteps := 4000000) only [go_sem, Nat.reduceAdd, Nat.reduceSub, Nat.reduceMul, Nat.reduceDiv, Nat.reduceMod, Nat.reduceLT, Nat.reduceLeDiff, Nat.reduceEqDiff, Nat.reduceBEq, Nat.reduceBNe, Nat.reduceGT, Int.reduceAdd, Int.reduceSub, Int.reduceMul, Int.reduceNeg, Int.reduceLT, Int.reduceLE, Int.reduceEq, Int.reduceNe, Int.reduceBEq, Int.reduceBNe, Int.reduceToNat, Int.reduceGT, Int.reduceGE, ↓reduceIte, decide_true, decide_false, eq_self, Nat.mul_one, Nat.zero_mul, Nat.one_mul, Int.le_refl, Nat.le_refl, Int.cast_ofNat_Int, Try.f6, Span.t, Span.cs, beq_self_eq_true]
end Go.Proofs.Ytgofljmnlfnlnaa

/- Part Ln. -/
namespace Go.Oc
open Go Go.Pm Go.Proofs.Ytgofljmnlfnlnaa

theorem snoc_ind {α : Type} {p : List α → Prop} (h0 : p []) (h1 : ∀ l x, p l → p (l ++ [x])) (l : List α) : p l := by
  have : ∀ l : List α, p l.reverse := by
    intro l
    induction l with
    | nil => exact h0
    | cons x l ih => rw [List.reverse_cons]; exact h1 _ _ ih
  simpa using this l.reverse
theorem max_mul_le {a b c t : Int} (hc : 0 ≤ c) : max a b * c ≤ t ↔ a * c ≤ t ∧ b * c ≤ t := by
  rcases Int.le_total a b with h | h
  · rw [Int.max_eq_right h]
    have := Int.mul_le_mul_of_nonneg_right h hc
    constructor
    · intro h; omega
    · intro h; exact h.2
  · rw [Int.max_eq_left h]
    have := Int.mul_le_mul_of_nonneg_right h hc
    constructor
    · intro h; omega
    · intro h; exact h.1
theorem le_min_mul {a b c t : Int} (hc : 0 ≤ c) : t ≤ min a b * c ↔ t ≤ a * c ∧ t ≤ b * c := by
  rcases Int.le_total a b with h | h
  · rw [Int.min_eq_left h]
    have := Int.mul_le_mul_of_nonneg_right h hc
    constructor
    · intro h; omega
    · intro h; exact h.1
  · rw [Int.min_eq_right h]
    have := Int.mul_le_mul_of_nonneg_right h hc
    constructor
    · intro h; omega
    · intro h; exact h.2
theorem fold_in_iff {w z c t : Int} (hc : 0 ≤ c) : ∀ (l : List Mk) (s : Span),
    ((l.foldl (inS w z) s).lo * c ≤ t ∧ t ≤ (l.foldl (inS w z) s).hi * c) ↔ (s.lo * c ≤ t ∧ t ≤ s.hi * c) ∧ ∀ m ∈ l, (outM m z - w) * c ≤ t ∧ t ≤ (outM m z + w) * c
  | [], s => by simp
  | m :: l, s => by
    rw [List.foldl_cons, fold_in_iff hc l (inS w z s m)]
    simp only [inS, max_mul_le hc, le_min_mul hc, List.forall_mem_cons]
    constructor
    · rintro ⟨⟨⟨a, b⟩, c, d⟩, e⟩; exact ⟨⟨a, c⟩, ⟨b, d⟩, e⟩
    · rintro ⟨⟨a, c⟩, ⟨b, d⟩, e⟩; exact ⟨⟨⟨a, b⟩, c, d⟩, e⟩
theorem outM_b {m : Mk} {z : Int} (hm : inB m.at' 0 400 = true) (hz : 0 ≤ z ∧ z ≤ 400) : -400 ≤ outM m z ∧ outM m z ≤ 400 := by
  have := inB_iff.1 hm
  unfold outM; split <;> omega
/-- With a value c, a tilt t and a zero z the middles can be so. -/
theorem within_can {v : Vial} (hv : v.ok = true) {l : List Mk} (hm : mksOk l = true) (h1 : 1 ≤ l.length) {tv tz tt : Int} (h2 : v.v0 ≤ tv) (h3 : tv ≤ v.v1) (h4 : v.z0 ≤ tz) (h5 : tz ≤ v.z1) :
    (decide ((withinS v.wr l tz).lo ≤ (withinS v.wr l tz).hi) && inB tt ((withinS v.wr l tz).lo * tv) ((withinS v.wr l tz).hi * tv)) = canB v l tv tz tt := by
  have hv' := Vial.ok_iff.1 hv
  have key := fold_in_iff (w := v.wr) (z := tz) (c := tv) (t := tt) (by omega) l ⟨-10000, 10000⟩
  rw [show l.foldl (inS v.wr tz) ⟨-10000, 10000⟩ = withinS v.wr l tz from rfl] at key
  rw [Bool.eq_iff_iff]
  simp only [Bool.and_eq_true, decide_eq_true_eq, inB_iff, canB, List.all_eq_true]
  have hc : ∀ m : Mk, (outM m tz - v.wr) * tv = tv * (outM m tz - v.wr) ∧ (outM m tz + v.wr) * tv = tv * (outM m tz + v.wr) := fun m => ⟨Int.mul_comm _ _, Int.mul_comm _ _⟩
  constructor
  · rintro ⟨_, h⟩ m hm'
    have := (key.1 h).2 m hm'
    rw [(hc m).1, (hc m).2] at this
    exact this
  · intro h
    have hall : ∀ m ∈ l, (outM m tz - v.wr) * tv ≤ tt ∧ tt ≤ (outM m tz + v.wr) * tv := fun m hm' => by rw [(hc m).1, (hc m).2]; exact h m hm'
    have hs : (-10000 * tv ≤ tt ∧ tt ≤ 10000 * tv) := by
      obtain ⟨m, hm'⟩ : ∃ m, m ∈ l := by cases l with | nil => simp at h1 | cons m _ => exact ⟨m, List.mem_cons_self⟩
      have ho := outM_b (z := tz) (List.all_eq_true.1 hm m hm') (by omega)
      have := hall m hm'
      have a1 := Int.mul_le_mul_of_nonneg_right (c := tv) (show (-10000 : Int) ≤ outM m tz - v.wr by omega) (by omega)
      have a2 := Int.mul_le_mul_of_nonneg_right (c := tv) (show outM m tz + v.wr ≤ (10000 : Int) by omega) (by omega)
      omega
    have h' := key.2 ⟨hs, hall⟩
    refine ⟨?_, h'⟩
    have : (withinS v.wr l tz).lo * tv ≤ (withinS v.wr l tz).hi * tv := by omega
    exact Int.le_of_mul_le_mul_right this (by omega)
/-- A zero with which the middles can be so. -/
def feas (v : Vial) (l : List Mk) (z : Int) : Prop := (v.z0 ≤ z ∧ z ≤ v.z1) ∧ (withinS v.wr l z).lo ≤ (withinS v.wr l z).hi
theorem zerosOf_feas {v : Vial} {l : List Mk} {y : Int × Span} : y ∈ zerosOf v l (allZ v) ↔ y.2 = withinS v.wr l y.1 ∧ feas v l y.1 := by
  constructor
  · intro h
    obtain ⟨a, b, c, d⟩ := zerosOf_mem h
    exact ⟨a, ⟨c, d⟩, by rw [← a]; exact b⟩
  · rintro ⟨a, ⟨c, d⟩, b⟩
    unfold zerosOf allZ range
    simp only [List.mem_filterMap, List.mem_map, List.mem_range]
    refine ⟨y.1, ⟨(y.1 - v.z0).toNat, by omega, by omega⟩, ?_⟩
    rw [if_pos b, ← a]
/-- What a fold of tilts has. -/
structure Has (v : Vial) (ys : List (Int × Span)) (x : TZ) : Prop where
  is : x.is = true ↔ ys ≠ []
  lo : ∀ y ∈ ys, x.tilt.lo ≤ leastP v y.2.lo
  hi : ∀ y ∈ ys, mostP v y.2.hi ≤ x.tilt.hi
  loAt : ys ≠ [] → ∃ y ∈ ys, x.tilt.lo = leastP v y.2.lo
  hiAt : ys ≠ [] → ∃ y ∈ ys, x.tilt.hi = mostP v y.2.hi
  zlo : ys ≠ [] → ∃ y ∈ ys, x.zero.lo = y.1
  zhi : ys ≠ [] → ∃ y ∈ ys, x.zero.hi = y.1
theorem has_snoc {v : Vial} {ys : List (Int × Span)} {x : TZ} (h : Has v ys x) (y : Int × Span) : Has v (ys ++ [y]) (tiltStep v x y) := by
  by_cases hi : x.is = true
  · have hn := h.is.1 hi
    have e : tiltStep v x y = ⟨⟨min x.tilt.lo (leastP v y.2.lo), max x.tilt.hi (mostP v y.2.hi)⟩, ⟨x.zero.lo, y.1⟩, true⟩ := by unfold tiltStep; rw [if_pos hi]
    rw [e]
    refine ⟨by simp, ?_, ?_, fun _ => ?_, fun _ => ?_, fun _ => ?_, fun _ => ⟨y, by simp, rfl⟩⟩
    · intro w hw
      rcases List.mem_append.1 hw with hw | hw
      · have := h.lo w hw; simp only; omega
      · cases List.mem_singleton.1 hw; simp only; omega
    · intro w hw
      rcases List.mem_append.1 hw with hw | hw
      · have := h.hi w hw; simp only; omega
      · cases List.mem_singleton.1 hw; simp only; omega
    · obtain ⟨w, hw, ew⟩ := h.loAt hn
      rcases Int.le_total x.tilt.lo (leastP v y.2.lo) with hl | hl
      · exact ⟨w, List.mem_append_left _ hw, by simp only; omega⟩
      · exact ⟨y, by simp, by simp only; omega⟩
    · obtain ⟨w, hw, ew⟩ := h.hiAt hn
      rcases Int.le_total x.tilt.hi (mostP v y.2.hi) with hl | hl
      · exact ⟨y, by simp, by simp only; omega⟩
      · exact ⟨w, List.mem_append_left _ hw, by simp only; omega⟩
    · obtain ⟨w, hw, ew⟩ := h.zlo hn
      exact ⟨w, List.mem_append_left _ hw, ew⟩
  · have hn : ys = [] := by
      rcases List.eq_nil_or_concat ys with h0 | ⟨_, _, h0⟩
      · exact h0
      · exact absurd (h.is.2 (by rw [h0]; simp)) hi
    subst hn
    have e : tiltStep v x y = ⟨⟨leastP v y.2.lo, mostP v y.2.hi⟩, ⟨y.1, y.1⟩, true⟩ := by unfold tiltStep; rw [if_neg hi]
    rw [e]
    exact ⟨by simp, by simp, by simp, by simp, by simp, by simp, by simp⟩
theorem has_fold (v : Vial) : ∀ ys : List (Int × Span), Has v ys (tiltsOf v ys) := by
  refine snoc_ind ⟨by simp [tiltsOf], by simp, by simp, by simp, by simp, by simp, by simp⟩ fun ys y ih => ?_
  unfold tiltsOf at ih ⊢
  rw [List.foldl_append]
  exact has_snoc ih y
theorem tilts_is {v : Vial} {l : List Mk} : (tilts v l).is = true ↔ ∃ z, feas v l z := by
  have h := has_fold v (zerosOf v l (allZ v))
  rw [show tilts v l = tiltsOf v (zerosOf v l (allZ v)) from rfl, h.is]
  constructor
  · intro hn
    obtain ⟨y, hy⟩ := List.exists_mem_of_ne_nil _ hn
    exact ⟨y.1, (zerosOf_feas.1 hy).2⟩
  · rintro ⟨z, hz⟩ hn
    have : (z, withinS v.wr l z) ∈ zerosOf v l (allZ v) := zerosOf_feas.2 ⟨rfl, hz⟩
    rw [hn] at this; cases this
theorem tilts_lo {v : Vial} {l : List Mk} {z : Int} (h : feas v l z) : (tilts v l).tilt.lo ≤ leastP v (withinS v.wr l z).lo :=
  (has_fold v (zerosOf v l (allZ v))).lo (z, withinS v.wr l z) (zerosOf_feas.2 ⟨rfl, h⟩)
theorem tilts_hi {v : Vial} {l : List Mk} {z : Int} (h : feas v l z) : mostP v (withinS v.wr l z).hi ≤ (tilts v l).tilt.hi :=
  (has_fold v (zerosOf v l (allZ v))).hi (z, withinS v.wr l z) (zerosOf_feas.2 ⟨rfl, h⟩)
theorem tilts_at {v : Vial} {l : List Mk} (h : (tilts v l).is = true) : (∃ z, feas v l z ∧ (tilts v l).tilt.lo = leastP v (withinS v.wr l z).lo) ∧ (∃ z, feas v l z ∧ (tilts v l).tilt.hi = mostP v (withinS v.wr l z).hi) ∧ feas v l (tilts v l).zero.lo ∧ feas v l (tilts v l).zero.hi := by
  have hf := has_fold v (zerosOf v l (allZ v))
  have hn := hf.is.1 h
  obtain ⟨y1, m1, e1⟩ := hf.loAt hn
  obtain ⟨y2, m2, e2⟩ := hf.hiAt hn
  obtain ⟨y3, m3, e3⟩ := hf.zlo hn
  obtain ⟨y4, m4, e4⟩ := hf.zhi hn
  refine ⟨⟨y1.1, (zerosOf_feas.1 m1).2, ?_⟩, ⟨y2.1, (zerosOf_feas.1 m2).2, ?_⟩, ?_, ?_⟩
  · rw [← (zerosOf_feas.1 m1).1]; exact e1
  · rw [← (zerosOf_feas.1 m2).1]; exact e2
  · show feas v l (tiltsOf v _).zero.lo; rw [e3]; exact (zerosOf_feas.1 m3).2
  · show feas v l (tiltsOf v _).zero.hi; rw [e4]; exact (zerosOf_feas.1 m4).2
theorem allZ_sorted (v : Vial) : (allZ v).Pairwise (· < ·) := by
  unfold allZ range
  rw [List.pairwise_map]
  exact List.Pairwise.imp (fun h => by omega) List.pairwise_lt_range
theorem zerosOf_sorted (v : Vial) (l : List Mk) : (zerosOf v l (allZ v)).Pairwise (fun a b => a.1 < b.1) := by
  unfold zerosOf
  refine List.Pairwise.filterMap _ ?_ (allZ_sorted v)
  intro a b hab x hx y hy
  simp only [Option.mem_def] at hx hy
  split at hx <;> cases hx
  split at hy <;> cases hy
  exact hab
theorem ord_fold (v : Vial) : ∀ ys : List (Int × Span), ys.Pairwise (fun a b => a.1 < b.1) → ∀ y ∈ ys, (tiltsOf v ys).zero.lo ≤ y.1 ∧ y.1 ≤ (tiltsOf v ys).zero.hi := by
  refine snoc_ind (fun _ y h => by cases h) fun ys x ih => ?_
  · intro hp
    rw [List.pairwise_append] at hp
    obtain ⟨h1, _, h3⟩ := hp
    have ih := ih h1
    have hlast : ∀ w ∈ ys, w.1 < x.1 := fun w hw => h3 w hw x (by simp)
    have hf := has_fold v ys
    have e : tiltsOf v (ys ++ [x]) = tiltStep v (tiltsOf v ys) x := by unfold tiltsOf; rw [List.foldl_append]; rfl
    rw [e]
    by_cases hi : (tiltsOf v ys).is = true
    · have hn := hf.is.1 hi
      obtain ⟨w0, hw0, _⟩ := hf.zlo hn
      have h0 := ih w0 hw0
      have h0' := hlast w0 hw0
      unfold tiltStep
      rw [if_pos hi]
      intro y hy
      rcases List.mem_append.1 hy with hy | hy
      · have := ih y hy; have := hlast y hy; simp only; omega
      · cases List.mem_singleton.1 hy; simp only; omega
    · have hn : ys = [] := by
        rcases List.eq_nil_or_concat ys with h0 | ⟨_, _, h0⟩
        · exact h0
        · exact absurd (hf.is.2 (by rw [h0]; simp)) hi
      subst hn
      unfold tiltStep
      rw [if_neg hi]
      intro y hy
      cases List.mem_singleton.1 hy
      simp
theorem tilts_zero {v : Vial} {l : List Mk} {z : Int} (h : feas v l z) : (tilts v l).zero.lo ≤ z ∧ z ≤ (tilts v l).zero.hi :=
  ord_fold v _ (zerosOf_sorted v l) (z, withinS v.wr l z) (zerosOf_feas.2 ⟨rfl, h⟩)
/-- THE THEOREM OF THE BUBBLE, plainly. -/
theorem bubble {v : Vial} (hv : v.ok = true) {l : List Mk} (hm : mksOk l = true) (h1 : 1 ≤ l.length) {tv tz tt : Int} (h2 : v.v0 ≤ tv) (h3 : tv ≤ v.v1) (h4 : v.z0 ≤ tz) (h5 : tz ≤ v.z1) (hc : canB v l tv tz tt = true) :
    (tilts v l).is = true ∧ (tilts v l).tilt.lo ≤ tt ∧ tt ≤ (tilts v l).tilt.hi ∧ (tilts v l).zero.lo ≤ tz ∧ tz ≤ (tilts v l).zero.hi := by
  rw [← within_can hv hm h1 h2 h3 h4 h5, Bool.and_eq_true, decide_eq_true_eq, inB_iff] at hc
  have hf : feas v l tz := ⟨⟨h4, h5⟩, hc.1⟩
  have hv' := Vial.ok_iff.1 hv
  have a := tilts_lo hf
  have b := tilts_hi hf
  have c := tilts_zero hf
  have lo1 : leastP v (withinS v.wr l tz).lo ≤ (withinS v.wr l tz).lo * tv := by
    unfold leastP
    rcases Int.le_total 0 (withinS v.wr l tz).lo with h | h
    · have := Int.mul_le_mul_of_nonneg_left h2 h; omega
    · have := Int.mul_le_mul_of_nonpos_left h h3; omega
  have hi1 : (withinS v.wr l tz).hi * tv ≤ mostP v (withinS v.wr l tz).hi := by
    unfold mostP
    rcases Int.le_total 0 (withinS v.wr l tz).hi with h | h
    · have := Int.mul_le_mul_of_nonneg_left h3 h; omega
    · have := Int.mul_le_mul_of_nonpos_left h h2; omega
  exact ⟨tilts_is.2 ⟨tz, hf⟩, by omega, by omega, c.1, c.2⟩
end Go.Oc

/- Part Lr. -/
namespace Go.Proofs.Ytgofljmnlfnlnaa
open Go.RowKit Go.Pm Go.Oc
set_option maxRecDepth 100000
set_option linter.unusedVariables false
set_option maxHeartbeats 1000000

theorem rCheck_c (v : Vial) : PCalls Try.prog 19 [v.t] (.int .i64 (if v.ok then 0 else 30)) := by
  refine pcalls_by Try.mixes spB3_ok (fn := Try.f19) Try.func19 rfl (by kernel_rfl) (by show 1 ≤ _; decide) ?_
  simp (decide := true) (maxSteps := 4000000) only [go_sem, Nat.reduceAdd, Nat.reduceSub, Nat.reduceMul, Nat.reduceDiv, Nat.reduceMod, Nat.reduceLT, Nat.reduceLeDiff, Nat.reduceEqDiff, Nat.reduceBEq, Nat.reduceBNe, Nat.reduceGT, Int.reduceAdd, Int.reduceSub, Int.reduceMul, Int.reduceNeg, Int.reduceLT, Int.reduceLE, Int.reduceEq, Int.reduceNe, Int.reduceBEq, Int.reduceBNe, Int.reduceToNat, Int.reduceGT, Int.reduceGE, ↓reduceIte, decide_true, decide_false, Try.f19, Vial.t, Vial.cs]
  cases h1 : inB v.marks 10 200 with
  | false => simp (decide := true) (maxSteps := 4000000) only [go_sem, Nat.reduceAdd, Nat.reduceSub, Nat.reduceMul, Nat.reduceDiv, Nat.reduceMod, Nat.reduceLT, Nat.reduceLeDiff, Nat.reduceEqDiff, Nat.reduceBEq, Nat.reduceBNe, Nat.reduceGT, Int.reduceAdd, Int.reduceSub, Int.reduceMul, Int.reduceNeg, Int.reduceLT, Int.reduceLE, Int.reduceEq, Int.reduceNe, Int.reduceBEq, Int.reduceBNe, Int.reduceToNat, Int.reduceGT, Int.reduceGE, ↓reduceIte, decide_true, decide_false, h1, Vial.ok]
  | true =>
    have h1' := inB_iff.1 h1
    have e : IntKind.i64.wrap (2 * v.marks) = 2 * v.marks := wrap_in (by omega) (by omega)
    cases h2 : spannedB ⟨v.l0, v.l1⟩ 1 v.marks <;> cases h3 : spannedB ⟨v.v0, v.v1⟩ 1 500 <;> cases h4 : spannedB ⟨v.z0, v.z1⟩ 0 (2 * v.marks) <;> cases h5 : inB v.wr 0 8 <;> simp (decide := true) (maxSteps := 4000000) only [go_sem, Nat.reduceAdd, Nat.reduceSub, Nat.reduceMul, Nat.reduceDiv, Nat.reduceMod, Nat.reduceLT, Nat.reduceLeDiff, Nat.reduceEqDiff, Nat.reduceBEq, Nat.reduceBNe, Nat.reduceGT, Int.reduceAdd, Int.reduceSub, Int.reduceMul, Int.reduceNeg, Int.reduceLT, Int.reduceLE, Int.reduceEq, Int.reduceNe, Int.reduceBEq, Int.reduceBNe, Int.reduceToNat, Int.reduceGT, Int.reduceGE, ↓reduceIte, decide_true, decide_false, h1, h2, h3, h4, h5, e, Vial.ok]
noncomputable def grCheck : List TV → Option TV
  | [.agg [.int .i64 m, .int .i64 a, .int .i64 b, .int .i64 c, .int .i64 d, .int .i64 e, .int .i64 f, .int .i64 g]] => some (.int .i64 (if Vial.ok ⟨m, a, b, c, d, e, f, g⟩ then 0 else 30))
  | _ => none
theorem grCheck_ok : ∀ xs r, grCheck xs = some r → PCalls Try.prog 19 xs r := by
  intro xs r h
  unfold grCheck at h
  split at h
  · cases h; exact rCheck_c ⟨_, _, _, _, _, _, _, _⟩
  · cases h
attribute [go_sem] grCheck

theorem rReadings_c (v : Vial) (l : List Rd) (full : Bool) (hv : v.ok = true) : PCalls Try.prog 69 [v.t, .sl (l.flatMap Rd.cs) l.length full] (.bool (rdsOk v l)) := by
  have hv' := Vial.ok_iff.1 hv
  have e1 : IntKind.i64.wrap (v.l0 - v.wr) = v.l0 - v.wr := wrap_in (by omega) (by omega)
  have e2 : IntKind.i64.wrap (v.l1 + v.wr) = v.l1 + v.wr := wrap_in (by omega) (by omega)
  refine pcalls_by Try.mixes spB3_ok (fn := Try.f69) Try.func69 rfl (by kernel_rfl) (by show 2 ≤ _; decide) ?_
  simp (decide := true) (maxSteps := 4000000) only [go_sem, Nat.reduceAdd, Nat.reduceSub, Nat.reduceMul, Nat.reduceDiv, Nat.reduceMod, Nat.reduceLT, Nat.reduceLeDiff, Nat.reduceEqDiff, Nat.reduceBEq, Nat.reduceBNe, Nat.reduceGT, Int.reduceAdd, Int.reduceSub, Int.reduceMul, Int.reduceNeg, Int.reduceLT, Int.reduceLE, Int.reduceEq, Int.reduceNe, Int.reduceBEq, Int.reduceBNe, Int.reduceToNat, Int.reduceGT, Int.reduceGE, ↓reduceIte, decide_true, decide_false, Try.f69, Vial.t, Vial.cs]
  refine pwpC_loop (A := Nat) (fun k => { env := [(6, .t (.int .i64 k)), (5, .t (.bool (inB l.length 1 8 && (l.take k).all (rdOk v)))), (2, .ptr 0 0), (1, .t (.sl (l.flatMap Rd.cs) l.length full))], heap := [.box (v.cs.map .t)] }) (fun k => l.length - k) 0 ?_ (fun k => by rfl) fun k => ?_
  · simp (decide := true) (maxSteps := 4000000) only [go_sem, Nat.reduceAdd, Nat.reduceSub, Nat.reduceMul, Nat.reduceDiv, Nat.reduceMod, Nat.reduceLT, Nat.reduceLeDiff, Nat.reduceEqDiff, Nat.reduceBEq, Nat.reduceBNe, Nat.reduceGT, Int.reduceAdd, Int.reduceSub, Int.reduceMul, Int.reduceNeg, Int.reduceLT, Int.reduceLE, Int.reduceEq, Int.reduceNe, Int.reduceBEq, Int.reduceBNe, Int.reduceToNat, Int.reduceGT, Int.reduceGE, ↓reduceIte, decide_true, decide_false, Vial.cs]
  · by_cases hlt : (k : Int) < l.length
    · obtain ⟨x, hx⟩ := get_lt hlt
      have hd := flat_at Rd.cs (n := 3) (fun _ => rfl) hx
      cases hok : (inB l.length 1 8 && (l.take k).all (rdOk v)) with
      | true =>
        have h8 : (l.length : Int) ≤ 8 := by simp [inB] at hok; omega
        have hk : IntKind.i64.wrap (k + 1) = ((k + 1 : Nat) : Int) := by rw [wrap_in (by omega) (by omega)]; omega
        have e0 : (inB l.length 1 8 && (l.take (k + 1)).all (rdOk v)) = rdOk v x := by rw [take_all _ hx, ← Bool.and_assoc, hok, Bool.true_and]
        cases h1 : inB x.left 0 v.marks with
        | false =>
          simp (decide := true) (maxSteps := 4000000) only [go_sem, Nat.reduceAdd, Nat.reduceSub, Nat.reduceMul, Nat.reduceDiv, Nat.reduceMod, Nat.reduceLT, Nat.reduceLeDiff, Nat.reduceEqDiff, Nat.reduceBEq, Nat.reduceBNe, Nat.reduceGT, Int.reduceAdd, Int.reduceSub, Int.reduceMul, Int.reduceNeg, Int.reduceLT, Int.reduceLE, Int.reduceEq, Int.reduceNe, Int.reduceBEq, Int.reduceBNe, Int.reduceToNat, Int.reduceGT, Int.reduceGE, ↓reduceIte, decide_true, decide_false, hok, hlt, hd, Rd.cs, Vial.cs, h1]
          refine ⟨k + 1, ⟨hk, ?_⟩, by omega⟩
          rw [e0]; simp [rdOk, h1]
        | true =>
          have h1' := inB_iff.1 h1
          have e3 : IntKind.i64.wrap (x.left + 1) = x.left + 1 := wrap_in (by omega) (by omega)
          cases h2 : inB x.right (x.left + 1) v.marks with
          | false =>
            simp (decide := true) (maxSteps := 4000000) only [go_sem, Nat.reduceAdd, Nat.reduceSub, Nat.reduceMul, Nat.reduceDiv, Nat.reduceMod, Nat.reduceLT, Nat.reduceLeDiff, Nat.reduceEqDiff, Nat.reduceBEq, Nat.reduceBNe, Nat.reduceGT, Int.reduceAdd, Int.reduceSub, Int.reduceMul, Int.reduceNeg, Int.reduceLT, Int.reduceLE, Int.reduceEq, Int.reduceNe, Int.reduceBEq, Int.reduceBNe, Int.reduceToNat, Int.reduceGT, Int.reduceGE, ↓reduceIte, decide_true, decide_false, hok, hlt, hd, Rd.cs, Vial.cs, h1, e3, h2]
            refine ⟨k + 1, ⟨hk, ?_⟩, by omega⟩
            rw [e0]; simp [rdOk, h2]
          | true =>
            have h2' := inB_iff.1 h2
            have e4 : IntKind.i64.wrap (x.right - x.left) = x.right - x.left := wrap_in (by omega) (by omega)
            simp (decide := true) (maxSteps := 4000000) only [go_sem, Nat.reduceAdd, Nat.reduceSub, Nat.reduceMul, Nat.reduceDiv, Nat.reduceMod, Nat.reduceLT, Nat.reduceLeDiff, Nat.reduceEqDiff, Nat.reduceBEq, Nat.reduceBNe, Nat.reduceGT, Int.reduceAdd, Int.reduceSub, Int.reduceMul, Int.reduceNeg, Int.reduceLT, Int.reduceLE, Int.reduceEq, Int.reduceNe, Int.reduceBEq, Int.reduceBNe, Int.reduceToNat, Int.reduceGT, Int.reduceGE, ↓reduceIte, decide_true, decide_false, hok, hlt, hd, Rd.cs, Vial.cs, h1, e3, h2, e4, e1, e2]
            refine ⟨k + 1, ⟨hk, ?_⟩, by omega⟩
            rw [e0]; simp [rdOk, h1, h2]
      | false =>
        simp (decide := true) (maxSteps := 4000000) only [go_sem, Nat.reduceAdd, Nat.reduceSub, Nat.reduceMul, Nat.reduceDiv, Nat.reduceMod, Nat.reduceLT, Nat.reduceLeDiff, Nat.reduceEqDiff, Nat.reduceBEq, Nat.reduceBNe, Nat.reduceGT, Int.reduceAdd, Int.reduceSub, Int.reduceMul, Int.reduceNeg, Int.reduceLT, Int.reduceLE, Int.reduceEq, Int.reduceNe, Int.reduceBEq, Int.reduceBNe, Int.reduceToNat, Int.reduceGT, Int.reduceGE, ↓reduceIte, decide_true, decide_false, hok, hlt]
        symm
        cases hb : inB l.length 1 8 with
        | false => simp [rdsOk, hb]
        | true => rw [hb, Bool.true_and] at hok; simp [rdsOk, all_of_take hok]
    · simp (decide := true) (maxSteps := 4000000) only [go_sem, Nat.reduceAdd, Nat.reduceSub, Nat.reduceMul, Nat.reduceDiv, Nat.reduceMod, Nat.reduceLT, Nat.reduceLeDiff, Nat.reduceEqDiff, Nat.reduceBEq, Nat.reduceBNe, Nat.reduceGT, Int.reduceAdd, Int.reduceSub, Int.reduceMul, Int.reduceNeg, Int.reduceLT, Int.reduceLE, Int.reduceEq, Int.reduceNe, Int.reduceBEq, Int.reduceBNe, Int.reduceToNat, Int.reduceGT, Int.reduceGE, ↓reduceIte, decide_true, decide_false, hlt]
      unfold rdsOk
      rw [List.take_of_length_le (by omega)]
theorem rReadings_n (v : Vial) : PCalls Try.prog 69 [v.t, .nilSl] (.bool false) := by
  refine pcalls_by Try.mixes spB3_ok (fn := Try.f69) Try.func69 rfl (by kernel_rfl) (by show 2 ≤ _; decide) ?_
  simp (decide := true) (maxSteps := 4000000) only [go_sem, Nat.reduceAdd, Nat.reduceSub, Nat.reduceMul, Nat.reduceDiv, Nat.reduceMod, Nat.reduceLT, Nat.reduceLeDiff, Nat.reduceEqDiff, Nat.reduceBEq, Nat.reduceBNe, Nat.reduceGT, Int.reduceAdd, Int.reduceSub, Int.reduceMul, Int.reduceNeg, Int.reduceLT, Int.reduceLE, Int.reduceEq, Int.reduceNe, Int.reduceBEq, Int.reduceBNe, Int.reduceToNat, Int.reduceGT, Int.reduceGE, ↓reduceIte, decide_true, decide_false, Try.f69, Vial.t, Vial.cs]
  refine pwpC_loop (A := Unit) (fun _ => { env := [(5, .t (.bool false))], heap := [] }) (fun _ => 0) () ?_ (fun k => by rfl) fun k => ?_
  · simp (decide := true) (maxSteps := 4000000) only [go_sem, Nat.reduceAdd, Nat.reduceSub, Nat.reduceMul, Nat.reduceDiv, Nat.reduceMod, Nat.reduceLT, Nat.reduceLeDiff, Nat.reduceEqDiff, Nat.reduceBEq, Nat.reduceBNe, Nat.reduceGT, Int.reduceAdd, Int.reduceSub, Int.reduceMul, Int.reduceNeg, Int.reduceLT, Int.reduceLE, Int.reduceEq, Int.reduceNe, Int.reduceBEq, Int.reduceBNe, Int.reduceToNat, Int.reduceGT, Int.reduceGE, ↓reduceIte, decide_true, decide_false, inB]
  · simp (decide := true) (maxSteps := 4000000) only [go_sem, Nat.reduceAdd, Nat.reduceSub, Nat.reduceMul, Nat.reduceDiv, Nat.reduceMod, Nat.reduceLT, Nat.reduceLeDiff, Nat.reduceEqDiff, Nat.reduceBEq, Nat.reduceBNe, Nat.reduceGT, Int.reduceAdd, Int.reduceSub, Int.reduceMul, Int.reduceNeg, Int.reduceLT, Int.reduceLE, Int.reduceEq, Int.reduceNe, Int.reduceBEq, Int.reduceBNe, Int.reduceToNat, Int.reduceGT, Int.reduceGE, ↓reduceIte, decide_true, decide_false]
theorem rReadings_d (v : Vial) {l : List Rd} {s : TV} (hs : IsRow Rd.cs s l) (hv : v.ok = true) : PCalls Try.prog 69 [v.t, s] (.bool (rdsOk v l)) := by
  rcases hs with ⟨rfl, rfl⟩ | ⟨full, rfl⟩
  · exact rReadings_n v
  · exact rReadings_c v l full hv
noncomputable def grReadings : List TV → Option TV
  | [.agg [.int .i64 m, .int .i64 a, .int .i64 b, .int .i64 c, .int .i64 d, .int .i64 e, .int .i64 f, .int .i64 g], s] => match rowL unRds s with
    | some l => if Vial.ok ⟨m, a, b, c, d, e, f, g⟩ = true then some (.bool (rdsOk ⟨m, a, b, c, d, e, f, g⟩ l)) else none
    | none => none
  | _ => none
theorem grReadings_ok : ∀ xs r, grReadings xs = some r → PCalls Try.prog 69 xs r := by
  intro xs r h
  unfold grReadings at h
  split at h
  · split at h
    · rename_i l hl
      have hl := rowL_some (un := unRds) rfl (@unRds_some) hl
      split at h
      · rename_i hc; cases h; exact rReadings_d ⟨_, _, _, _, _, _, _, _⟩ hl hc
      · cases h
    · cases h
  · cases h
attribute [go_sem] grReadings

theorem rMiddles_c (l : List Rd) (full : Bool) (hl : l.length ≤ 8) (hm : mksOk (l.map mid) = true) : PCalls Try.prog 51 [.sl (l.flatMap Rd.cs) l.length full] (if l.length = 0 then .nilSl else .sl ((l.map mid).flatMap Mk.cs) (l.map mid).length false) := by
  refine pcalls_by Try.mixes spB3_ok (fn := Try.f51) Try.func51 rfl (by kernel_rfl) (by show 1 ≤ _; decide) ?_
  simp (decide := true) (maxSteps := 4000000) only [go_sem, Nat.reduceAdd, Nat.reduceSub, Nat.reduceMul, Nat.reduceDiv, Nat.reduceMod, Nat.reduceLT, Nat.reduceLeDiff, Nat.reduceEqDiff, Nat.reduceBEq, Nat.reduceBNe, Nat.reduceGT, Int.reduceAdd, Int.reduceSub, Int.reduceMul, Int.reduceNeg, Int.reduceLT, Int.reduceLE, Int.reduceEq, Int.reduceNe, Int.reduceBEq, Int.reduceBNe, Int.reduceToNat, Int.reduceGT, Int.reduceGE, ↓reduceIte, decide_true, decide_false, Try.f51]
  refine pwpC_loop (A := { k : Nat // k ≤ l.length }) (fun k => { env := [(4, .t (.int .i64 k.1)), (3, .own (((l.take k.1).map mid).flatMap Mk.cs) k.1 0), (0, .t (.sl (l.flatMap Rd.cs) l.length full))], heap := [.tok k.1 114] }) (fun k => l.length - k.1) ⟨0, by omega⟩ ?_ (fun k => by rfl) fun ⟨k, hk⟩ => ?_
  · simp (decide := true) (maxSteps := 4000000) only [go_sem, Nat.reduceAdd, Nat.reduceSub, Nat.reduceMul, Nat.reduceDiv, Nat.reduceMod, Nat.reduceLT, Nat.reduceLeDiff, Nat.reduceEqDiff, Nat.reduceBEq, Nat.reduceBNe, Nat.reduceGT, Int.reduceAdd, Int.reduceSub, Int.reduceMul, Int.reduceNeg, Int.reduceLT, Int.reduceLE, Int.reduceEq, Int.reduceNe, Int.reduceBEq, Int.reduceBNe, Int.reduceToNat, Int.reduceGT, Int.reduceGE, ↓reduceIte, decide_true, decide_false]
  · by_cases hlt : (k : Int) < l.length
    · obtain ⟨x, hx⟩ := get_lt hlt
      have hd := flat_at Rd.cs (n := 3) (fun _ => rfl) hx
      have hc : (List.flatMap Mk.cs (List.map mid (List.take k l))).length = k * 2 := by rw [flat_len Mk.cs (n := 2) (fun _ => rfl)]; simp; omega
      have hr : (k + 1) * 16 ≤ 140737488355328 := by omega
      have hk1 : IntKind.i64.wrap (k + 1) = ((k + 1 : Nat) : Int) := by rw [wrap_in (by omega) (by omega)]; omega
      have hx2 : 0 ≤ x.left + x.right ∧ x.left + x.right ≤ 400 := by
        have := List.all_eq_true.1 hm (mid x) (List.mem_map_of_mem (List.mem_of_getElem? hx))
        exact inB_iff.1 this
      have e : IntKind.i64.wrap (x.left + x.right) = x.left + x.right := wrap_in (by omega) (by omega)
      simp (decide := true) (maxSteps := 4000000) only [go_sem, Nat.reduceAdd, Nat.reduceSub, Nat.reduceMul, Nat.reduceDiv, Nat.reduceMod, Nat.reduceLT, Nat.reduceLeDiff, Nat.reduceEqDiff, Nat.reduceBEq, Nat.reduceBNe, Nat.reduceGT, Int.reduceAdd, Int.reduceSub, Int.reduceMul, Int.reduceNeg, Int.reduceLT, Int.reduceLE, Int.reduceEq, Int.reduceNe, Int.reduceBEq, Int.reduceBNe, Int.reduceToNat, Int.reduceGT, Int.reduceGE, ↓reduceIte, decide_true, decide_false, hlt, hd, Rd.cs, hc, hr, e]
      refine ⟨⟨k + 1, by omega⟩, ?_⟩
      have ht : (List.take (k + 1) l).map mid = (List.take k l).map mid ++ [mid x] := by rw [take_snoc hx]; simp
      simp (decide := true) (maxSteps := 4000000) only [go_sem, Nat.reduceAdd, Nat.reduceSub, Nat.reduceMul, Nat.reduceDiv, Nat.reduceMod, Nat.reduceLT, Nat.reduceLeDiff, Nat.reduceEqDiff, Nat.reduceBEq, Nat.reduceBNe, Nat.reduceGT, Int.reduceAdd, Int.reduceSub, Int.reduceMul, Int.reduceNeg, Int.reduceLT, Int.reduceLE, Int.reduceEq, Int.reduceNe, Int.reduceBEq, Int.reduceBNe, Int.reduceToNat, Int.reduceGT, Int.reduceGE, ↓reduceIte, decide_true, decide_false, hk1, ht, List.flatMap_append, Mk.cs, mid]
      omega
    · have hkl : k = l.length := by omega
      simp (decide := true) (maxSteps := 4000000) only [go_sem, Nat.reduceAdd, Nat.reduceSub, Nat.reduceMul, Nat.reduceDiv, Nat.reduceMod, Nat.reduceLT, Nat.reduceLeDiff, Nat.reduceEqDiff, Nat.reduceBEq, Nat.reduceBNe, Nat.reduceGT, Int.reduceAdd, Int.reduceSub, Int.reduceMul, Int.reduceNeg, Int.reduceLT, Int.reduceLE, Int.reduceEq, Int.reduceNe, Int.reduceBEq, Int.reduceBNe, Int.reduceToNat, Int.reduceGT, Int.reduceGE, ↓reduceIte, decide_true, decide_false, hlt]
      rw [hkl, List.take_length, List.length_map]
theorem rMiddles_d {l : List Rd} {s : TV} (hs : IsRow Rd.cs s l) (h1 : 1 ≤ l.length) (hl : l.length ≤ 8) (hm : mksOk (l.map mid) = true) : PCalls Try.prog 51 [s] (.sl ((l.map mid).flatMap Mk.cs) l.length false) := by
  obtain ⟨full, rfl⟩ := hs.ne h1
  have := rMiddles_c l full hl hm
  rwa [if_neg (by omega), List.length_map] at this
noncomputable def grMiddles : List TV → Option TV
  | [s] => match rowL unRds s with
    | some l => if 1 ≤ l.length ∧ l.length ≤ 8 ∧ mksOk (l.map mid) = true then some (.sl ((l.map mid).flatMap Mk.cs) l.length false) else none
    | none => none
  | _ => none
theorem grMiddles_ok : ∀ xs r, grMiddles xs = some r → PCalls Try.prog 51 xs r := by
  intro xs r h
  unfold grMiddles at h
  split at h
  · split at h
    · rename_i l hl
      have hl := rowL_some (un := unRds) rfl (@unRds_some) hl
      split at h
      · rename_i hc; cases h; exact rMiddles_d hl hc.1 hc.2.1 hc.2.2
      · cases h
    · cases h
  · cases h
attribute [go_sem] grMiddles
noncomputable def spR1 : Pm.Spec := ((spB3.one 19 grCheck).one 69 grReadings).one 51 grMiddles
@[go_sem] theorem spR1_p (f : FuncId) (xs : List TV) : spR1.p f xs = Pm.Spec.p (((spB3.one 19 grCheck).one 69 grReadings).one 51 grMiddles) f xs := rfl
@[go_sem] theorem spR1_h (f : FuncId) (ps : List PV) (hl : List PO) : spR1.h f ps hl = Pm.Spec.h (((spB3.one 19 grCheck).one 69 grReadings).one 51 grMiddles) f ps hl := rfl
@[go_sem] theorem spR1_fz (f : FuncId) : spR1.fz f = Pm.Spec.fz (((spB3.one 19 grCheck).one 69 grReadings).one 51 grMiddles) f := rfl
@[go_sem] theorem spR1_fr (f : FuncId) : spR1.fr f = Pm.Spec.fr (((spB3.one 19 grCheck).one 69 grReadings).one 51 grMiddles) f := rfl
@[go_sem] theorem spR1_mu (t : TypeId) : spR1.mu t = Pm.Spec.mu (((spB3.one 19 grCheck).one 69 grReadings).one 51 grMiddles) t := rfl
theorem spR1_ok : SpecOk Try.prog spR1 := Spec.one_ok grMiddles_ok (Spec.one_ok grReadings_ok (Spec.one_ok grCheck_ok spB3_ok))
end Go.Proofs.Ytgofljmnlfnlnaa

/- Part Ls. -/
namespace Go.Proofs.Ytgofljmnlfnlnaa
open Go.RowKit Go.Pm Go.Oc
set_option maxRecDepth 100000
set_option linter.unusedVariables false
set_option maxHeartbeats 1000000

theorem rAsked_c (v : Vial) {l : List Rd} {s : TV} (hs : IsRow Rd.cs s l) : PCalls Try.prog 49 [v.t, s] (.int .i64 (asked v l)) := by
  refine pcalls_by Try.mixes spR1_ok (fn := Try.f49) Try.func49 rfl (by kernel_rfl) (by show 2 ≤ _; decide) ?_
  rcases hs with ⟨rfl, rfl⟩ | ⟨full, rfl⟩
  · cases hv : v.ok with
    | false => simp (decide := true) (maxSteps := 4000000) only [go_sem, Nat.reduceAdd, Nat.reduceSub, Nat.reduceMul, Nat.reduceDiv, Nat.reduceMod, Nat.reduceLT, Nat.reduceLeDiff, Nat.reduceEqDiff, Nat.reduceBEq, Nat.reduceBNe, Nat.reduceGT, Int.reduceAdd, Int.reduceSub, Int.reduceMul, Int.reduceNeg, Int.reduceLT, Int.reduceLE, Int.reduceEq, Int.reduceNe, Int.reduceBEq, Int.reduceBNe, Int.reduceToNat, Int.reduceGT, Int.reduceGE, ↓reduceIte, decide_true, decide_false, Try.f49, Vial.t, Vial.cs, hv, asked]
    | true => simp (decide := true) (maxSteps := 4000000) only [go_sem, Nat.reduceAdd, Nat.reduceSub, Nat.reduceMul, Nat.reduceDiv, Nat.reduceMod, Nat.reduceLT, Nat.reduceLeDiff, Nat.reduceEqDiff, Nat.reduceBEq, Nat.reduceBNe, Nat.reduceGT, Int.reduceAdd, Int.reduceSub, Int.reduceMul, Int.reduceNeg, Int.reduceLT, Int.reduceLE, Int.reduceEq, Int.reduceNe, Int.reduceBEq, Int.reduceBNe, Int.reduceToNat, Int.reduceGT, Int.reduceGE, ↓reduceIte, decide_true, decide_false, Try.f49, Vial.t, Vial.cs, hv, asked, rdsOk, inB, unRds]
  · cases hv : v.ok with
    | false => simp (decide := true) (maxSteps := 4000000) only [go_sem, Nat.reduceAdd, Nat.reduceSub, Nat.reduceMul, Nat.reduceDiv, Nat.reduceMod, Nat.reduceLT, Nat.reduceLeDiff, Nat.reduceEqDiff, Nat.reduceBEq, Nat.reduceBNe, Nat.reduceGT, Int.reduceAdd, Int.reduceSub, Int.reduceMul, Int.reduceNeg, Int.reduceLT, Int.reduceLE, Int.reduceEq, Int.reduceNe, Int.reduceBEq, Int.reduceBNe, Int.reduceToNat, Int.reduceGT, Int.reduceGE, ↓reduceIte, decide_true, decide_false, Try.f49, Vial.t, Vial.cs, hv, asked]
    | true => cases hr : rdsOk v l <;> simp (decide := true) (maxSteps := 4000000) only [go_sem, Nat.reduceAdd, Nat.reduceSub, Nat.reduceMul, Nat.reduceDiv, Nat.reduceMod, Nat.reduceLT, Nat.reduceLeDiff, Nat.reduceEqDiff, Nat.reduceBEq, Nat.reduceBNe, Nat.reduceGT, Int.reduceAdd, Int.reduceSub, Int.reduceMul, Int.reduceNeg, Int.reduceLT, Int.reduceLE, Int.reduceEq, Int.reduceNe, Int.reduceBEq, Int.reduceBNe, Int.reduceToNat, Int.reduceGT, Int.reduceGE, ↓reduceIte, decide_true, decide_false, Try.f49, Vial.t, Vial.cs, hv, hr, asked]
noncomputable def grAsked : List TV → Option TV
  | [.agg [.int .i64 m, .int .i64 a, .int .i64 b, .int .i64 c, .int .i64 d, .int .i64 e, .int .i64 f, .int .i64 g], s] => match rowL unRds s with
    | some l => if True then some (.int .i64 (asked ⟨m, a, b, c, d, e, f, g⟩ l)) else none
    | none => none
  | _ => none
theorem grAsked_ok : ∀ xs r, grAsked xs = some r → PCalls Try.prog 49 xs r := by
  intro xs r h
  unfold grAsked at h
  split at h
  · split at h
    · rename_i l hl
      have hl := rowL_some (un := unRds) rfl (@unRds_some) hl
      split at h
      · rename_i hc; cases h; exact rAsked_c ⟨_, _, _, _, _, _, _, _⟩ hl
      · cases h
    · cases h
  · cases h
attribute [go_sem] grAsked
theorem rWithin_c (v : Vial) (l : List Mk) (full : Bool) (z : Int) (hv : v.ok = true) (hm : mksOk l = true) (hz : 0 ≤ z ∧ z ≤ 400) (hl : l.length ≤ 100) :
    PCalls Try.prog 50 [v.t, .sl (l.flatMap Mk.cs) l.length full, .int .i64 z] (.tup [.int .i64 (withinS v.wr l z).lo, .int .i64 (withinS v.wr l z).hi]) := by
  refine pcalls_by Try.mixes noSpec_ok (fn := Try.f50) Try.func50 rfl (by kernel_rfl) (by show 3 ≤ _; decide) ?_
  simp (decide := true) (maxSteps := 4000000) only [go_sem, Nat.reduceAdd, Nat.reduceSub, Nat.reduceMul, Nat.reduceDiv, Nat.reduceMod, Nat.reduceLT, Nat.reduceLeDiff, Nat.reduceEqDiff, Nat.reduceBEq, Nat.reduceBNe, Nat.reduceGT, Int.reduceAdd, Int.reduceSub, Int.reduceMul, Int.reduceNeg, Int.reduceLT, Int.reduceLE, Int.reduceEq, Int.reduceNe, Int.reduceBEq, Int.reduceBNe, Int.reduceToNat, Int.reduceGT, Int.reduceGE, ↓reduceIte, decide_true, decide_false, Try.f50, Vial.t, Vial.cs]
  refine pwpC_loop (A := { k : Nat // k ≤ l.length }) (fun k => { env := [(10, .t (.int .i64 k.1)), (9, .t (.int .i64 (withinS v.wr (l.take k.1) z).hi)), (8, .t (.int .i64 (withinS v.wr (l.take k.1) z).lo)), (1, .t (.sl (l.flatMap Mk.cs) l.length full)), (2, .t (.int .i64 z)), (3, .ptr 0 0)], heap := [.box (v.cs.map .t)] }) (fun k => l.length - k.1) ⟨0, by omega⟩ ?_ (fun k => by rfl) fun ⟨k, hk⟩ => ?_
  · simp (decide := true) (maxSteps := 4000000) only [go_sem, Nat.reduceAdd, Nat.reduceSub, Nat.reduceMul, Nat.reduceDiv, Nat.reduceMod, Nat.reduceLT, Nat.reduceLeDiff, Nat.reduceEqDiff, Nat.reduceBEq, Nat.reduceBNe, Nat.reduceGT, Int.reduceAdd, Int.reduceSub, Int.reduceMul, Int.reduceNeg, Int.reduceLT, Int.reduceLE, Int.reduceEq, Int.reduceNe, Int.reduceBEq, Int.reduceBNe, Int.reduceToNat, Int.reduceGT, Int.reduceGE, ↓reduceIte, decide_true, decide_false, Vial.cs, withinS]
  · have hv' := Vial.ok_iff.1 hv
    by_cases hlt : (k : Int) < l.length
    · obtain ⟨x, hx⟩ := get_lt hlt
      have hd := flat_at Mk.cs (n := 2) (fun _ => rfl) hx
      have hx2 := inB_iff.1 (List.all_eq_true.1 hm x (List.mem_of_getElem? hx))
      have hs : withinS v.wr (l.take (k + 1)) z = inS v.wr z (withinS v.wr (l.take k) z) x := by unfold withinS; rw [take_snoc hx, List.foldl_append]; rfl
      have hk1 : IntKind.i64.wrap (k + 1) = ((k + 1 : Nat) : Int) := by rw [wrap_in (by omega) (by omega)]; omega
      obtain ⟨a, tu⟩ := x
      simp only at hx2
      cases tu with
      | false =>
        simp (decide := true) (maxSteps := 4000000) only [go_sem, Nat.reduceAdd, Nat.reduceSub, Nat.reduceMul, Nat.reduceDiv, Nat.reduceMod, Nat.reduceLT, Nat.reduceLeDiff, Nat.reduceEqDiff, Nat.reduceBEq, Nat.reduceBNe, Nat.reduceGT, Int.reduceAdd, Int.reduceSub, Int.reduceMul, Int.reduceNeg, Int.reduceLT, Int.reduceLE, Int.reduceEq, Int.reduceNe, Int.reduceBEq, Int.reduceBNe, Int.reduceToNat, Int.reduceGT, Int.reduceGE, ↓reduceIte, decide_true, decide_false, hlt, hd, Mk.cs, Vial.cs]
        refine ⟨⟨k + 1, by omega⟩, ?_⟩
        rw [hs]
        simp (decide := true) (maxSteps := 4000000) only [go_sem, Nat.reduceAdd, Nat.reduceSub, Nat.reduceMul, Nat.reduceDiv, Nat.reduceMod, Nat.reduceLT, Nat.reduceLeDiff, Nat.reduceEqDiff, Nat.reduceBEq, Nat.reduceBNe, Nat.reduceGT, Int.reduceAdd, Int.reduceSub, Int.reduceMul, Int.reduceNeg, Int.reduceLT, Int.reduceLE, Int.reduceEq, Int.reduceNe, Int.reduceBEq, Int.reduceBNe, Int.reduceToNat, Int.reduceGT, Int.reduceGE, ↓reduceIte, decide_true, decide_false, hk1, inS, outM]
        simp (disch := omega) only [wrap_in, and_self, true_and, and_true]
        omega
      | true =>
        simp (decide := true) (maxSteps := 4000000) only [go_sem, Nat.reduceAdd, Nat.reduceSub, Nat.reduceMul, Nat.reduceDiv, Nat.reduceMod, Nat.reduceLT, Nat.reduceLeDiff, Nat.reduceEqDiff, Nat.reduceBEq, Nat.reduceBNe, Nat.reduceGT, Int.reduceAdd, Int.reduceSub, Int.reduceMul, Int.reduceNeg, Int.reduceLT, Int.reduceLE, Int.reduceEq, Int.reduceNe, Int.reduceBEq, Int.reduceBNe, Int.reduceToNat, Int.reduceGT, Int.reduceGE, ↓reduceIte, decide_true, decide_false, hlt, hd, Mk.cs, Vial.cs]
        refine ⟨⟨k + 1, by omega⟩, ?_⟩
        rw [hs]
        simp (decide := true) (maxSteps := 4000000) only [go_sem, Nat.reduceAdd, Nat.reduceSub, Nat.reduceMul, Nat.reduceDiv, Nat.reduceMod, Nat.reduceLT, Nat.reduceLeDiff, Nat.reduceEqDiff, Nat.reduceBEq, Nat.reduceBNe, Nat.reduceGT, Int.reduceAdd, Int.reduceSub, Int.reduceMul, Int.reduceNeg, Int.reduceLT, Int.reduceLE, Int.reduceEq, Int.reduceNe, Int.reduceBEq, Int.reduceBNe, Int.reduceToNat, Int.reduceGT, Int.reduceGE, ↓reduceIte, decide_true, decide_false, hk1, inS, outM]
        simp (disch := omega) only [wrap_in, and_self, true_and, and_true]
        omega
    · have hkl : k = l.length := by omega
      simp (decide := true) (maxSteps := 4000000) only [go_sem, Nat.reduceAdd, Nat.reduceSub, Nat.reduceMul, Nat.reduceDiv, Nat.reduceMod, Nat.reduceLT, Nat.reduceLeDiff, Nat.reduceEqDiff, Nat.reduceBEq, Nat.reduceBNe, Nat.reduceGT, Int.reduceAdd, Int.reduceSub, Int.reduceMul, Int.reduceNeg, Int.reduceLT, Int.reduceLE, Int.reduceEq, Int.reduceNe, Int.reduceBEq, Int.reduceBNe, Int.reduceToNat, Int.reduceGT, Int.reduceGE, ↓reduceIte, decide_true, decide_false, hlt]
      rw [hkl, List.take_length]
      exact ⟨rfl, rfl⟩
noncomputable def grWithin : List TV → Option TV
  | [.agg [.int .i64 m, .int .i64 a, .int .i64 b, .int .i64 c, .int .i64 d, .int .i64 e, .int .i64 f, .int .i64 g], s, .int .i64 z] => match rowL unMks s with
    | some l => if 1 ≤ l.length ∧ Vial.ok ⟨m, a, b, c, d, e, f, g⟩ = true ∧ mksOk l = true ∧ (0 ≤ z ∧ z ≤ 400) ∧ l.length ≤ 100 then some (.tup [.int .i64 (withinS g l z).lo, .int .i64 (withinS g l z).hi]) else none
    | none => none
  | _ => none
theorem grWithin_ok : ∀ xs r, grWithin xs = some r → PCalls Try.prog 50 xs r := by
  intro xs r h
  unfold grWithin at h
  split at h
  · split at h
    · rename_i l hl
      have hl := rowL_some (un := unMks) rfl (@unMks_some) hl
      split at h
      · rename_i hc; cases h; exact (by obtain ⟨h0, h1, h2, h3, h4⟩ := hc; obtain ⟨full, rfl⟩ := hl.ne h0; exact rWithin_c ⟨_, _, _, _, _, _, _, _⟩ _ _ _ h1 h2 h3 h4)
      · cases h
    · cases h
  · cases h
attribute [go_sem] grWithin
noncomputable def spR2 : Pm.Spec := (spR1.one 49 grAsked).one 50 grWithin
@[go_sem] theorem spR2_p (f : FuncId) (xs : List TV) : spR2.p f xs = Pm.Spec.p ((spR1.one 49 grAsked).one 50 grWithin) f xs := rfl
@[go_sem] theorem spR2_h (f : FuncId) (ps : List PV) (hl : List PO) : spR2.h f ps hl = Pm.Spec.h ((spR1.one 49 grAsked).one 50 grWithin) f ps hl := rfl
@[go_sem] theorem spR2_fz (f : FuncId) : spR2.fz f = Pm.Spec.fz ((spR1.one 49 grAsked).one 50 grWithin) f := rfl
@[go_sem] theorem spR2_fr (f : FuncId) : spR2.fr f = Pm.Spec.fr ((spR1.one 49 grAsked).one 50 grWithin) f := rfl
@[go_sem] theorem spR2_mu (t : TypeId) : spR2.mu t = Pm.Spec.mu ((spR1.one 49 grAsked).one 50 grWithin) t := rfl
theorem spR2_ok : SpecOk Try.prog spR2 := Spec.one_ok grWithin_ok (Spec.one_ok grAsked_ok spR1_ok)
end Go.Proofs.Ytgofljmnlfnlnaa

/- Part Lt. -/
namespace Go.Proofs.Ytgofljmnlfnlnaa
open Go.RowKit Go.Pm Go.Oc
set_option maxRecDepth 100000
set_option linter.unusedVariables false
set_option maxHeartbeats 1000000

theorem rTilts_c (v : Vial) (l : List Mk) (full : Bool) (h1 : 1 ≤ l.length) (hv : v.ok = true) (hm : mksOk l = true) (hl : l.length ≤ 100) :
    PCalls Try.prog 55 [v.t, .sl (l.flatMap Mk.cs) l.length full] (tilts v l).t := by
  refine pcalls_by Try.mixes spR2_ok (fn := Try.f55) Try.func55 rfl (by kernel_rfl) (by show 2 ≤ _; decide) ?_
  simp (decide := true) (maxSteps := 4000000) only [go_sem, Nat.reduceAdd, Nat.reduceSub, Nat.reduceMul, Nat.reduceDiv, Nat.reduceMod, Nat.reduceLT, Nat.reduceLeDiff, Nat.reduceEqDiff, Nat.reduceBEq, Nat.reduceBNe, Nat.reduceGT, Int.reduceAdd, Int.reduceSub, Int.reduceMul, Int.reduceNeg, Int.reduceLT, Int.reduceLE, Int.reduceEq, Int.reduceNe, Int.reduceBEq, Int.reduceBNe, Int.reduceToNat, Int.reduceGT, Int.reduceGE, ↓reduceIte, decide_true, decide_false, Try.f55, Vial.t, Vial.cs]
  have hv' := Vial.ok_iff.1 hv
  refine pwpC_loop (A := { k : Nat // k ≤ (v.z1 - v.z0 + 1).toNat }) (fun k => { env := [(10, .t (.int .i64 (v.z0 + k.1))), (9, .t (.bool (tiltsTo v l k.1).is)), (8, .ptr 4 0), (7, .ptr 3 0), (5, .ptr 2 0), (4, .ptr 1 0), (2, .ptr 0 0), (1, .t (.sl (l.flatMap Mk.cs) l.length full))], heap := [.box (v.cs.map .t), .box [.t (.int .i64 0), .t (.int .i64 0)], .box [.t (.int .i64 0), .t (.int .i64 0)], .box ((tiltsTo v l k.1).tilt.cs.map .t), .box ((tiltsTo v l k.1).zero.cs.map .t)] }) (fun k => (v.z1 - v.z0 + 1).toNat - k.1) ⟨0, by omega⟩ ?_ (fun k => by rfl) fun ⟨k, hk⟩ => ?_
  · simp (decide := true) (maxSteps := 4000000) only [go_sem, Nat.reduceAdd, Nat.reduceSub, Nat.reduceMul, Nat.reduceDiv, Nat.reduceMod, Nat.reduceLT, Nat.reduceLeDiff, Nat.reduceEqDiff, Nat.reduceBEq, Nat.reduceBNe, Nat.reduceGT, Int.reduceAdd, Int.reduceSub, Int.reduceMul, Int.reduceNeg, Int.reduceLT, Int.reduceLE, Int.reduceEq, Int.reduceNe, Int.reduceBEq, Int.reduceBNe, Int.reduceToNat, Int.reduceGT, Int.reduceGE, ↓reduceIte, decide_true, decide_false, Vial.cs, tiltsTo_zero, Span.cs]
    omega
  · by_cases hlt : v.z0 + k ≤ v.z1
    · have hs := withinS_bound (w := v.wr) (z := v.z0 + k) (by omega) (by omega) (l := l) (s := ⟨-10000, 10000⟩) hm (by simp)
      have hwi : withinS v.wr l (v.z0 + k) = l.foldl (inS v.wr (v.z0 + k)) ⟨-10000, 10000⟩ := rfl
      rw [← hwi] at hs
      have hz : 0 ≤ v.z0 + (k : Int) ∧ v.z0 + (k : Int) ≤ 400 := by omega
      have hk1 : IntKind.i64.wrap (v.z0 + k + 1) = v.z0 + ((k + 1 : Nat) : Int) := by rw [wrap_in (by omega) (by omega)]; omega
      have p1 := mulB (a := (withinS v.wr l (v.z0 + k)).lo) (b := v.v0) (by omega) (by omega)
      have p2 := mulB (a := (withinS v.wr l (v.z0 + k)).lo) (b := v.v1) (by omega) (by omega)
      have p3 := mulB (a := (withinS v.wr l (v.z0 + k)).hi) (b := v.v0) (by omega) (by omega)
      have p4 := mulB (a := (withinS v.wr l (v.z0 + k)).hi) (b := v.v1) (by omega) (by omega)
      have w1 := wrap_in (n := (withinS v.wr l (v.z0 + k)).lo * v.v0) (by omega) (by omega)
      have w2 := wrap_in (n := (withinS v.wr l (v.z0 + k)).lo * v.v1) (by omega) (by omega)
      have w3 := wrap_in (n := (withinS v.wr l (v.z0 + k)).hi * v.v0) (by omega) (by omega)
      have w4 := wrap_in (n := (withinS v.wr l (v.z0 + k)).hi * v.v1) (by omega) (by omega)
      by_cases hin : (withinS v.wr l (v.z0 + k)).lo ≤ (withinS v.wr l (v.z0 + k)).hi
      · have hin' : ¬ (withinS v.wr l (v.z0 + k)).lo > (withinS v.wr l (v.z0 + k)).hi := by omega
        have hlm := least_most hv hin
        unfold leastP mostP at hlm
        simp (decide := true) (maxSteps := 4000000) only [go_sem, Nat.reduceAdd, Nat.reduceSub, Nat.reduceMul, Nat.reduceDiv, Nat.reduceMod, Nat.reduceLT, Nat.reduceLeDiff, Nat.reduceEqDiff, Nat.reduceBEq, Nat.reduceBNe, Nat.reduceGT, Int.reduceAdd, Int.reduceSub, Int.reduceMul, Int.reduceNeg, Int.reduceLT, Int.reduceLE, Int.reduceEq, Int.reduceNe, Int.reduceBEq, Int.reduceBNe, Int.reduceToNat, Int.reduceGT, Int.reduceGE, ↓reduceIte, decide_true, decide_false, hlt, Vial.cs, unMks, hv, h1, hm, hl, hz, hin', Span.cs, Span.t, w1, w2, w3, w4]
        refine ⟨⟨k + 1, by omega⟩, ?_⟩
        simp only [hk1, tiltsTo_in hin]
        cases his : (tiltsTo v l k).is with
        | false =>
          simp only [tiltStep, his, widerS, Span.cs, leastP, mostP]
          simp (decide := true) (maxSteps := 4000000) only [go_sem, Nat.reduceAdd, Nat.reduceSub, Nat.reduceMul, Nat.reduceDiv, Nat.reduceMod, Nat.reduceLT, Nat.reduceLeDiff, Nat.reduceEqDiff, Nat.reduceBEq, Nat.reduceBNe, Nat.reduceGT, Int.reduceAdd, Int.reduceSub, Int.reduceMul, Int.reduceNeg, Int.reduceLT, Int.reduceLE, Int.reduceEq, Int.reduceNe, Int.reduceBEq, Int.reduceBNe, Int.reduceToNat, Int.reduceGT, Int.reduceGE, ↓reduceIte, decide_true, decide_false]
          omega
        | true =>
          have hlow := tiltsTo_low his
          simp only [tiltStep, his, widerS, Span.cs, leastP, mostP]
          simp (decide := true) (maxSteps := 4000000) only [go_sem, Nat.reduceAdd, Nat.reduceSub, Nat.reduceMul, Nat.reduceDiv, Nat.reduceMod, Nat.reduceLT, Nat.reduceLeDiff, Nat.reduceEqDiff, Nat.reduceBEq, Nat.reduceBNe, Nat.reduceGT, Int.reduceAdd, Int.reduceSub, Int.reduceMul, Int.reduceNeg, Int.reduceLT, Int.reduceLE, Int.reduceEq, Int.reduceNe, Int.reduceBEq, Int.reduceBNe, Int.reduceToNat, Int.reduceGT, Int.reduceGE, ↓reduceIte, decide_true, decide_false]
          omega
      · have hin' : (withinS v.wr l (v.z0 + k)).lo > (withinS v.wr l (v.z0 + k)).hi := by omega
        simp (decide := true) (maxSteps := 4000000) only [go_sem, Nat.reduceAdd, Nat.reduceSub, Nat.reduceMul, Nat.reduceDiv, Nat.reduceMod, Nat.reduceLT, Nat.reduceLeDiff, Nat.reduceEqDiff, Nat.reduceBEq, Nat.reduceBNe, Nat.reduceGT, Int.reduceAdd, Int.reduceSub, Int.reduceMul, Int.reduceNeg, Int.reduceLT, Int.reduceLE, Int.reduceEq, Int.reduceNe, Int.reduceBEq, Int.reduceBNe, Int.reduceToNat, Int.reduceGT, Int.reduceGE, ↓reduceIte, decide_true, decide_false, hlt, Vial.cs, unMks, hv, h1, hm, hl, hz, hin', Span.cs, Span.t]
        refine ⟨⟨k + 1, by omega⟩, ?_⟩
        simp only [hk1, tiltsTo_out hin]
        simp (decide := true) (maxSteps := 4000000) only [go_sem, Nat.reduceAdd, Nat.reduceSub, Nat.reduceMul, Nat.reduceDiv, Nat.reduceMod, Nat.reduceLT, Nat.reduceLeDiff, Nat.reduceEqDiff, Nat.reduceBEq, Nat.reduceBNe, Nat.reduceGT, Int.reduceAdd, Int.reduceSub, Int.reduceMul, Int.reduceNeg, Int.reduceLT, Int.reduceLE, Int.reduceEq, Int.reduceNe, Int.reduceBEq, Int.reduceBNe, Int.reduceToNat, Int.reduceGT, Int.reduceGE, ↓reduceIte, decide_true, decide_false, Span.cs]
        omega
    · simp (decide := true) (maxSteps := 4000000) only [go_sem, Nat.reduceAdd, Nat.reduceSub, Nat.reduceMul, Nat.reduceDiv, Nat.reduceMod, Nat.reduceLT, Nat.reduceLeDiff, Nat.reduceEqDiff, Nat.reduceBEq, Nat.reduceBNe, Nat.reduceGT, Int.reduceAdd, Int.reduceSub, Int.reduceMul, Int.reduceNeg, Int.reduceLT, Int.reduceLE, Int.reduceEq, Int.reduceNe, Int.reduceBEq, Int.reduceBNe, Int.reduceToNat, Int.reduceGT, Int.reduceGE, ↓reduceIte, decide_true, decide_false, hlt, Vial.cs, Span.cs, TZ.t, Span.t]
      have hkl : k = (v.z1 - v.z0 + 1).toNat := by omega
      rw [tilts_to, ← hkl]
      simp (decide := true) (maxSteps := 4000000) only [go_sem, Nat.reduceAdd, Nat.reduceSub, Nat.reduceMul, Nat.reduceDiv, Nat.reduceMod, Nat.reduceLT, Nat.reduceLeDiff, Nat.reduceEqDiff, Nat.reduceBEq, Nat.reduceBNe, Nat.reduceGT, Int.reduceAdd, Int.reduceSub, Int.reduceMul, Int.reduceNeg, Int.reduceLT, Int.reduceLE, Int.reduceEq, Int.reduceNe, Int.reduceBEq, Int.reduceBNe, Int.reduceToNat, Int.reduceGT, Int.reduceGE, ↓reduceIte, decide_true, decide_false]
noncomputable def grTilts : List TV → Option TV
  | [.agg [.int .i64 m, .int .i64 a, .int .i64 b, .int .i64 c, .int .i64 d, .int .i64 e, .int .i64 f, .int .i64 g], s] => match rowL unMks s with
    | some l => if 1 ≤ l.length ∧ Vial.ok ⟨m, a, b, c, d, e, f, g⟩ = true ∧ mksOk l = true ∧ l.length ≤ 100 then some ((tilts ⟨m, a, b, c, d, e, f, g⟩ l).t) else none
    | none => none
  | _ => none
theorem grTilts_ok : ∀ xs r, grTilts xs = some r → PCalls Try.prog 55 xs r := by
  intro xs r h
  unfold grTilts at h
  split at h
  · split at h
    · rename_i l hl
      have hl := rowL_some (un := unMks) rfl (@unMks_some) hl
      split at h
      · rename_i hc; cases h; exact (by obtain ⟨h0, h1, h2, h3⟩ := hc; obtain ⟨full, rfl⟩ := hl.ne h0; exact rTilts_c ⟨_, _, _, _, _, _, _, _⟩ _ _ h0 h1 h2 h3)
      · cases h
    · cases h
  · cases h
attribute [go_sem] grTilts
noncomputable def spR3 : Pm.Spec := spR2.one 55 grTilts
@[go_sem] theorem spR3_p (f : FuncId) (xs : List TV) : spR3.p f xs = Pm.Spec.p (spR2.one 55 grTilts) f xs := rfl
@[go_sem] theorem spR3_h (f : FuncId) (ps : List PV) (hl : List PO) : spR3.h f ps hl = Pm.Spec.h (spR2.one 55 grTilts) f ps hl := rfl
@[go_sem] theorem spR3_fz (f : FuncId) : spR3.fz f = Pm.Spec.fz (spR2.one 55 grTilts) f := rfl
@[go_sem] theorem spR3_fr (f : FuncId) : spR3.fr f = Pm.Spec.fr (spR2.one 55 grTilts) f := rfl
@[go_sem] theorem spR3_mu (t : TypeId) : spR3.mu t = Pm.Spec.mu (spR2.one 55 grTilts) t := rfl
theorem spR3_ok : SpecOk Try.prog spR3 := Spec.one_ok grTilts_ok spR2_ok

theorem rTilt_c (v : Vial) {l : List Rd} {s : TV} (hs : IsRow Rd.cs s l) : PCalls Try.prog 21 [v.t, s] (tiltR v l).t := by
  refine pcalls_by Try.mixes spR3_ok (fn := Try.f21) Try.func21 rfl (by kernel_rfl) (by show 2 ≤ _; decide) ?_
  unfold tiltR
  by_cases hk : asked v l = 0
  · obtain ⟨hv, hr⟩ := asked_zero hk
    have hm := mksOk_mid hv hr
    have h8 := rdsOk_len hr
    have h100 : l.length ≤ 100 := by omega
    obtain ⟨full, rfl⟩ := hs.ne h8.1
    cases hi : (tilts v (l.map mid)).is <;> simp (decide := true) (maxSteps := 4000000) only [go_sem, Nat.reduceAdd, Nat.reduceSub, Nat.reduceMul, Nat.reduceDiv, Nat.reduceMod, Nat.reduceLT, Nat.reduceLeDiff, Nat.reduceEqDiff, Nat.reduceBEq, Nat.reduceBNe, Nat.reduceGT, Int.reduceAdd, Int.reduceSub, Int.reduceMul, Int.reduceNeg, Int.reduceLT, Int.reduceLE, Int.reduceEq, Int.reduceNe, Int.reduceBEq, Int.reduceBNe, Int.reduceToNat, Int.reduceGT, Int.reduceGE, ↓reduceIte, decide_true, decide_false, Try.f21, Vial.t, Vial.cs, hk, hv, h8.1, h8.2, h100, hm, List.length_map, unMks, TZ.t, Span.t, Span.cs, hi, TE.t]
  · have hk' : (asked v l != 0) = true := by simpa using hk
    rcases hs with ⟨rfl, rfl⟩ | ⟨full, rfl⟩ <;> simp (decide := true) (maxSteps := 4000000) only [go_sem, Nat.reduceAdd, Nat.reduceSub, Nat.reduceMul, Nat.reduceDiv, Nat.reduceMod, Nat.reduceLT, Nat.reduceLeDiff, Nat.reduceEqDiff, Nat.reduceBEq, Nat.reduceBNe, Nat.reduceGT, Int.reduceAdd, Int.reduceSub, Int.reduceMul, Int.reduceNeg, Int.reduceLT, Int.reduceLE, Int.reduceEq, Int.reduceNe, Int.reduceBEq, Int.reduceBNe, Int.reduceToNat, Int.reduceGT, Int.reduceGE, ↓reduceIte, decide_true, decide_false, Try.f21, Vial.t, Vial.cs, unRds, hk, hk', TE.t, Span.t, Span.cs]
end Go.Proofs.Ytgofljmnlfnlnaa

/- Part Lo. -/
namespace Go.Proofs.Ytgofljmnlfnlnaa
open Go.RowKit Go.Pm Go.Oc
set_option maxRecDepth 100000
set_option linter.unusedVariables false
set_option maxHeartbeats 4000000

theorem rCan_c (v : Vial) {l : List Rd} {s : TV} (hs : IsRow Rd.cs s l) (tv tz tt : Int) : PCalls Try.prog 17 [v.t, s, .agg [.int .i64 tv, .int .i64 tz, .int .i64 tt]] (.tup [.bool (canP v l tv tz tt).1, .int .i64 (canP v l tv tz tt).2]) := by
  refine pcalls_by Try.mixes spR3_ok (fn := Try.f17) Try.func17 rfl (by kernel_rfl) (by show 3 ≤ _; decide) ?_
  unfold canP
  by_cases hk : asked v l = 0
  · obtain ⟨hv, hr⟩ := asked_zero hk
    have hv' := Vial.ok_iff.1 hv
    have hm := mksOk_mid hv hr
    have h8 := rdsOk_len hr
    have h100 : l.length ≤ 100 := by omega
    obtain ⟨full, rfl⟩ := hs.ne h8.1
    cases h1 : inB tv v.v0 v.v1 with
    | false => simp (decide := true) (maxSteps := 4000000) only [go_sem, Nat.reduceAdd, Nat.reduceSub, Nat.reduceMul, Nat.reduceDiv, Nat.reduceMod, Nat.reduceLT, Nat.reduceLeDiff, Nat.reduceEqDiff, Nat.reduceBEq, Nat.reduceBNe, Nat.reduceGT, Int.reduceAdd, Int.reduceSub, Int.reduceMul, Int.reduceNeg, Int.reduceLT, Int.reduceLE, Int.reduceEq, Int.reduceNe, Int.reduceBEq, Int.reduceBNe, Int.reduceToNat, Int.reduceGT, Int.reduceGE, ↓reduceIte, decide_true, decide_false, eq_self, Nat.mul_one, Nat.zero_mul, Nat.one_mul, Int.le_refl, Nat.le_refl, Int.cast_ofNat_Int, Try.f17, Vial.t, Vial.cs, hk, h1]
    | true =>
      cases h2 : inB tz v.z0 v.z1 with
      | false => simp (decide := true) (maxSteps := 4000000) only [go_sem, Nat.reduceAdd, Nat.reduceSub, Nat.reduceMul, Nat.reduceDiv, Nat.reduceMod, Nat.reduceLT, Nat.reduceLeDiff, Nat.reduceEqDiff, Nat.reduceBEq, Nat.reduceBNe, Nat.reduceGT, Int.reduceAdd, Int.reduceSub, Int.reduceMul, Int.reduceNeg, Int.reduceLT, Int.reduceLE, Int.reduceEq, Int.reduceNe, Int.reduceBEq, Int.reduceBNe, Int.reduceToNat, Int.reduceGT, Int.reduceGE, ↓reduceIte, decide_true, decide_false, eq_self, Nat.mul_one, Nat.zero_mul, Nat.one_mul, Int.le_refl, Nat.le_refl, Int.cast_ofNat_Int, Try.f17, Vial.t, Vial.cs, hk, h1, h2]
      | true =>
        have h1' := inB_iff.1 h1
        have h2' := inB_iff.1 h2
        have hz : 0 ≤ tz ∧ tz ≤ 400 := by omega
        have hml : (l.map mid).length = l.length := List.length_map _
        have hb := withinS_bound (w := v.wr) (z := tz) (by omega) hz (l := l.map mid) (s := ⟨-10000, 10000⟩) hm (by simp)
        rw [show (l.map mid).foldl (inS v.wr tz) ⟨-10000, 10000⟩ = withinS v.wr (l.map mid) tz from rfl] at hb
        have p1 := mulB (a := (withinS v.wr (l.map mid) tz).lo) (b := tv) (by omega) (by omega)
        have p2 := mulB (a := (withinS v.wr (l.map mid) tz).hi) (b := tv) (by omega) (by omega)
        have w1 := wrap_in (n := (withinS v.wr (l.map mid) tz).lo * tv) (by omega) (by omega)
        have w2 := wrap_in (n := (withinS v.wr (l.map mid) tz).hi * tv) (by omega) (by omega)
        have hc := within_can hv hm (by omega) h1'.1 h1'.2 h2'.1 h2'.2 (tt := tt)
        simp (decide := true) (maxSteps := 4000000) only [go_sem, Nat.reduceAdd, Nat.reduceSub, Nat.reduceMul, Nat.reduceDiv, Nat.reduceMod, Nat.reduceLT, Nat.reduceLeDiff, Nat.reduceEqDiff, Nat.reduceBEq, Nat.reduceBNe, Nat.reduceGT, Int.reduceAdd, Int.reduceSub, Int.reduceMul, Int.reduceNeg, Int.reduceLT, Int.reduceLE, Int.reduceEq, Int.reduceNe, Int.reduceBEq, Int.reduceBNe, Int.reduceToNat, Int.reduceGT, Int.reduceGE, ↓reduceIte, decide_true, decide_false, eq_self, Nat.mul_one, Nat.zero_mul, Nat.one_mul, Int.le_refl, Nat.le_refl, Int.cast_ofNat_Int, Try.f17, Vial.t, Vial.cs, hk, h1, h2, hv, h8.1, h8.2, h100, hm, hz, List.length_map, w1, w2, hc]
  · have hk' : (asked v l != 0) = true := by simpa using hk
    rcases hs with ⟨rfl, rfl⟩ | ⟨full, rfl⟩ <;> simp (decide := true) (maxSteps := 4000000) only [go_sem, Nat.reduceAdd, Nat.reduceSub, Nat.reduceMul, Nat.reduceDiv, Nat.reduceMod, Nat.reduceLT, Nat.reduceLeDiff, Nat.reduceEqDiff, Nat.reduceBEq, Nat.reduceBNe, Nat.reduceGT, Int.reduceAdd, Int.reduceSub, Int.reduceMul, Int.reduceNeg, Int.reduceLT, Int.reduceLE, Int.reduceEq, Int.reduceNe, Int.reduceBEq, Int.reduceBNe, Int.reduceToNat, Int.reduceGT, Int.reduceGE, ↓reduceIte, decide_true, decide_false, eq_self, Nat.mul_one, Nat.zero_mul, Nat.one_mul, Int.le_refl, Nat.le_refl, Int.cast_ofNat_Int, Try.f17, Vial.t, Vial.cs, unRds, hk, hk']
noncomputable def grCan : List TV → Option TV
  | [.agg [.int .i64 m, .int .i64 a, .int .i64 b, .int .i64 c, .int .i64 d, .int .i64 e, .int .i64 f, .int .i64 g], s, .agg [.int .i64 tv, .int .i64 tz, .int .i64 tt]] => match rowL unRds s with
    | some l => if True then some (.tup [.bool (canP ⟨m, a, b, c, d, e, f, g⟩ l tv tz tt).1, .int .i64 (canP ⟨m, a, b, c, d, e, f, g⟩ l tv tz tt).2]) else none
    | none => none
  | _ => none
theorem grCan_ok : ∀ xs r, grCan xs = some r → PCalls Try.prog 17 xs r := by
  intro xs r h
  unfold grCan at h
  split at h
  · split at h
    · rename_i l hl
      have hl := rowL_some (un := unRds) rfl (@unRds_some) hl
      split at h
      · rename_i hc; cases h; exact rCan_c ⟨_, _, _, _, _, _, _, _⟩ hl _ _ _
      · cases h
    · cases h
  · cases h
attribute [go_sem] grCan
noncomputable def grTilt : List TV → Option TV
  | [.agg [.int .i64 m, .int .i64 a, .int .i64 b, .int .i64 c, .int .i64 d, .int .i64 e, .int .i64 f, .int .i64 g], s] => match rowL unRds s with
    | some l => if True then some ((tiltR ⟨m, a, b, c, d, e, f, g⟩ l).t) else none
    | none => none
  | _ => none
theorem grTilt_ok : ∀ xs r, grTilt xs = some r → PCalls Try.prog 21 xs r := by
  intro xs r h
  unfold grTilt at h
  split at h
  · split at h
    · rename_i l hl
      have hl := rowL_some (un := unRds) rfl (@unRds_some) hl
      split at h
      · rename_i hc; cases h; exact rTilt_c ⟨_, _, _, _, _, _, _, _⟩ hl
      · cases h
    · cases h
  · cases h
attribute [go_sem] grTilt
noncomputable def spO1 : Pm.Spec := ((spK1.one 19 grCheck).one 17 grCan).one 21 grTilt
@[go_sem] theorem spO1_p (f : FuncId) (xs : List TV) : spO1.p f xs = Pm.Spec.p (((spK1.one 19 grCheck).one 17 grCan).one 21 grTilt) f xs := rfl
@[go_sem] theorem spO1_h (f : FuncId) (ps : List PV) (hl : List PO) : spO1.h f ps hl = Pm.Spec.h (((spK1.one 19 grCheck).one 17 grCan).one 21 grTilt) f ps hl := rfl
@[go_sem] theorem spO1_fz (f : FuncId) : spO1.fz f = Pm.Spec.fz (((spK1.one 19 grCheck).one 17 grCan).one 21 grTilt) f := rfl
@[go_sem] theorem spO1_fr (f : FuncId) : spO1.fr f = Pm.Spec.fr (((spK1.one 19 grCheck).one 17 grCan).one 21 grTilt) f := rfl
@[go_sem] theorem spO1_mu (t : TypeId) : spO1.mu t = Pm.Spec.mu (((spK1.one 19 grCheck).one 17 grCan).one 21 grTilt) t := rfl
theorem spO1_ok : SpecOk Try.prog spO1 := Spec.one_ok grTilt_ok (Spec.one_ok grCan_ok (Spec.one_ok grCheck_ok spK1_ok))
theorem LevelTilts_c (v : Vial) {l : List Rd} {s : TV} (hs : IsRow Rd.cs s l) (hl : l.length ≤ 5864062014806) (tv tz tt : Int) : PCalls Try.prog 3 [v.t, s, .agg [.int .i64 tv, .int .i64 tz, .int .i64 tt]] (.bool true) := by
  refine pcalls_by Try.mixes spO1_ok (fn := Try.f3) Try.func3 rfl (by kernel_rfl) (by show 3 ≤ _; decide) ?_
  rcases hs with ⟨rfl, rfl⟩ | ⟨full, rfl⟩ <;> simp (decide := true) (maxSteps := 4000000) only [go_sem, Nat.reduceAdd, Nat.reduceSub, Nat.reduceMul, Nat.reduceDiv, Nat.reduceMod, Nat.reduceLT, Nat.reduceLeDiff, Nat.reduceEqDiff, Nat.reduceBEq, Nat.reduceBNe, Nat.reduceGT, Int.reduceAdd, Int.reduceSub, Int.reduceMul, Int.reduceNeg, Int.reduceLT, Int.reduceLE, Int.reduceEq, Int.reduceNe, Int.reduceBEq, Int.reduceBNe, Int.reduceToNat, Int.reduceGT, Int.reduceGE, ↓reduceIte, decide_true, decide_false, eq_self, Nat.mul_one, Nat.zero_mul, Nat.one_mul, Int.le_refl, Nat.le_refl, Int.cast_ofNat_Int, Try.f3, Vial.t, Vial.cs, unRds, hl, beq_self_eq_true, bne_self_eq_false, TE.t, Span.t, Span.cs, List.length_nil]
theorem can_no {v : Vial} {l : List Rd} {tv tz tt : Int} (h : (canP v l tv tz tt).2 ≠ 0) : (canP v l tv tz tt).1 = false := by
  unfold canP at h ⊢
  split <;> rename_i h1
  · rw [if_pos h1] at h
    split <;> rename_i h2
    · rw [if_pos h2] at h; exact absurd rfl h
    · rfl
  · rfl
theorem tilt_e (v : Vial) (l : List Rd) : (tiltR v l).e = 0 ∨ (tiltR v l).tilt = ⟨0, 0⟩ ∧ (tiltR v l).zero = ⟨0, 0⟩ := by
  unfold tiltR
  split
  · split
    · exact .inl rfl
    · exact .inr ⟨rfl, rfl⟩
  · exact .inr ⟨rfl, rfl⟩
/-- What Can and Tilt hand back together. -/
theorem can_tilt (v : Vial) (l : List Rd) (tv tz tt : Int) :
    ((canP v l tv tz tt).2 ≠ 0 ∧ (canP v l tv tz tt).1 = false ∧ ((tiltR v l).e = (canP v l tv tz tt).2 ∨ (canP v l tv tz tt).2 = 32)) ∨
    ((canP v l tv tz tt).2 = 0 ∧ (tiltR v l).e = 33 ∧ (canP v l tv tz tt).1 = false ∧ (tiltR v l).tilt = ⟨0, 0⟩ ∧ (tiltR v l).zero = ⟨0, 0⟩) ∨
    ((canP v l tv tz tt).2 = 0 ∧ (tiltR v l).e = 0 ∧ ((canP v l tv tz tt).1 = true → ((tiltR v l).tilt.lo ≤ tt ∧ tt ≤ (tiltR v l).tilt.hi) ∧ (tiltR v l).zero.lo ≤ tz ∧ tz ≤ (tiltR v l).zero.hi)) := by
  unfold canP tiltR
  by_cases hk : asked v l = 0
  · obtain ⟨hv, hr⟩ := asked_zero hk
    have hm := mksOk_mid hv hr
    have h8 := rdsOk_len hr
    rw [if_pos hk, if_pos hk]
    by_cases h1 : inB tv v.v0 v.v1 = true ∧ inB tz v.z0 v.z1 = true
    · rw [if_pos h1]
      have hb := fun hc => bubble hv hm (by rw [List.length_map]; omega) (inB_iff.1 h1.1).1 (inB_iff.1 h1.1).2 (inB_iff.1 h1.2).1 (inB_iff.1 h1.2).2 (tt := tt) hc
      cases hi : (tilts v (l.map mid)).is with
      | false =>
        refine .inr (.inl ⟨rfl, rfl, ?_, rfl, rfl⟩)
        cases hc : canB v (l.map mid) tv tz tt with
        | false => rfl
        | true => rw [(hb hc).1] at hi; cases hi
      | true => exact .inr (.inr ⟨rfl, rfl, fun hc => ⟨⟨(hb hc).2.1, (hb hc).2.2.1⟩, (hb hc).2.2.2⟩⟩)
    · rw [if_neg h1]
      exact .inl ⟨by simp, rfl, .inr rfl⟩
  · rw [if_neg hk, if_neg hk]
    exact .inl ⟨hk, rfl, .inl rfl⟩
theorem LevelBubble_c (v : Vial) {l : List Rd} {s : TV} (hs : IsRow Rd.cs s l) (hl : l.length ≤ 5864062014806) (tv tz tt : Int) : PCalls Try.prog 8 [v.t, s, .agg [.int .i64 tv, .int .i64 tz, .int .i64 tt]] (.bool true) := by
  have key := can_tilt v l tv tz tt
  have hc : ∃ c, canP v l tv tz tt = c := ⟨_, rfl⟩
  have ht : ∃ t, tiltR v l = t := ⟨_, rfl⟩
  obtain ⟨⟨cb, ce⟩, hc⟩ := hc
  obtain ⟨⟨⟨t0, t1⟩, ⟨z0, z1⟩, te⟩, ht⟩ := ht
  rw [hc, ht] at key
  simp only [Span.mk.injEq] at key
  refine pcalls_by Try.mixes spO1_ok (fn := Try.f8) Try.func8 rfl (by kernel_rfl) (by show 3 ≤ _; decide) ?_
  rcases key with ⟨h1, rfl, h2⟩ | ⟨rfl, rfl, rfl, ⟨rfl, rfl⟩, rfl, rfl⟩ | ⟨rfl, rfl, h⟩
  · have h1' : (ce != 0) = true := by simpa using h1
    rcases h2 with rfl | rfl
    · rcases hs with ⟨rfl, rfl⟩ | ⟨full, rfl⟩ <;> simp (decide := true) (maxSteps := 4000000) only [go_sem, Nat.reduceAdd, Nat.reduceSub, Nat.reduceMul, Nat.reduceDiv, Nat.reduceMod, Nat.reduceLT, Nat.reduceLeDiff, Nat.reduceEqDiff, Nat.reduceBEq, Nat.reduceBNe, Nat.reduceGT, Int.reduceAdd, Int.reduceSub, Int.reduceMul, Int.reduceNeg, Int.reduceLT, Int.reduceLE, Int.reduceEq, Int.reduceNe, Int.reduceBEq, Int.reduceBNe, Int.reduceToNat, Int.reduceGT, Int.reduceGE, ↓reduceIte, decide_true, decide_false, eq_self, Nat.mul_one, Nat.zero_mul, Nat.one_mul, Int.le_refl, Nat.le_refl, Int.cast_ofNat_Int, Try.f8, Vial.t, Vial.cs, unRds, hl, hc, ht, h1', TE.t, Span.t, Span.cs, List.length_nil, beq_self_eq_true, bne_self_eq_false]
    · cases hte : (te == 32) <;> rcases hs with ⟨rfl, rfl⟩ | ⟨full, rfl⟩ <;> simp (decide := true) (maxSteps := 4000000) only [go_sem, Nat.reduceAdd, Nat.reduceSub, Nat.reduceMul, Nat.reduceDiv, Nat.reduceMod, Nat.reduceLT, Nat.reduceLeDiff, Nat.reduceEqDiff, Nat.reduceBEq, Nat.reduceBNe, Nat.reduceGT, Int.reduceAdd, Int.reduceSub, Int.reduceMul, Int.reduceNeg, Int.reduceLT, Int.reduceLE, Int.reduceEq, Int.reduceNe, Int.reduceBEq, Int.reduceBNe, Int.reduceToNat, Int.reduceGT, Int.reduceGE, ↓reduceIte, decide_true, decide_false, eq_self, Nat.mul_one, Nat.zero_mul, Nat.one_mul, Int.le_refl, Nat.le_refl, Int.cast_ofNat_Int, Try.f8, Vial.t, Vial.cs, unRds, hl, hc, ht, h1', TE.t, Span.t, Span.cs, List.length_nil, beq_self_eq_true, bne_self_eq_false, hte]
  · rcases hs with ⟨rfl, rfl⟩ | ⟨full, rfl⟩ <;> simp (decide := true) (maxSteps := 4000000) only [go_sem, Nat.reduceAdd, Nat.reduceSub, Nat.reduceMul, Nat.reduceDiv, Nat.reduceMod, Nat.reduceLT, Nat.reduceLeDiff, Nat.reduceEqDiff, Nat.reduceBEq, Nat.reduceBNe, Nat.reduceGT, Int.reduceAdd, Int.reduceSub, Int.reduceMul, Int.reduceNeg, Int.reduceLT, Int.reduceLE, Int.reduceEq, Int.reduceNe, Int.reduceBEq, Int.reduceBNe, Int.reduceToNat, Int.reduceGT, Int.reduceGE, ↓reduceIte, decide_true, decide_false, eq_self, Nat.mul_one, Nat.zero_mul, Nat.one_mul, Int.le_refl, Nat.le_refl, Int.cast_ofNat_Int, Try.f8, Vial.t, Vial.cs, unRds, hl, hc, ht, TE.t, Span.t, Span.cs, List.length_nil, beq_self_eq_true, bne_self_eq_false]
  · cases cb with
    | false => rcases hs with ⟨rfl, rfl⟩ | ⟨full, rfl⟩ <;> simp (decide := true) (maxSteps := 4000000) only [go_sem, Nat.reduceAdd, Nat.reduceSub, Nat.reduceMul, Nat.reduceDiv, Nat.reduceMod, Nat.reduceLT, Nat.reduceLeDiff, Nat.reduceEqDiff, Nat.reduceBEq, Nat.reduceBNe, Nat.reduceGT, Int.reduceAdd, Int.reduceSub, Int.reduceMul, Int.reduceNeg, Int.reduceLT, Int.reduceLE, Int.reduceEq, Int.reduceNe, Int.reduceBEq, Int.reduceBNe, Int.reduceToNat, Int.reduceGT, Int.reduceGE, ↓reduceIte, decide_true, decide_false, eq_self, Nat.mul_one, Nat.zero_mul, Nat.one_mul, Int.le_refl, Nat.le_refl, Int.cast_ofNat_Int, Try.f8, Vial.t, Vial.cs, unRds, hl, hc, ht, TE.t, Span.t, Span.cs, List.length_nil, beq_self_eq_true, bne_self_eq_false]
    | true =>
      obtain ⟨g1, g2⟩ := h rfl
      have g1' := inB_iff.2 g1
      have g2' := inB_iff.2 g2
      rcases hs with ⟨rfl, rfl⟩ | ⟨full, rfl⟩ <;> simp (decide := true) (maxSteps := 4000000) only [go_sem, Nat.reduceAdd, Nat.reduceSub, Nat.reduceMul, Nat.reduceDiv, Nat.reduceMod, Nat.reduceLT, Nat.reduceLeDiff, Nat.reduceEqDiff, Nat.reduceBEq, Nat.reduceBNe, Nat.reduceGT, Int.reduceAdd, Int.reduceSub, Int.reduceMul, Int.reduceNeg, Int.reduceLT, Int.reduceLE, Int.reduceEq, Int.reduceNe, Int.reduceBEq, Int.reduceBNe, Int.reduceToNat, Int.reduceGT, Int.reduceGE, ↓reduceIte, decide_true, decide_false, eq_self, Nat.mul_one, Nat.zero_mul, Nat.one_mul, Int.le_refl, Nat.le_refl, Int.cast_ofNat_Int, Try.f8, Vial.t, Vial.cs, unRds, hl, hc, ht, TE.t, Span.t, Span.cs, List.length_nil, beq_self_eq_true, bne_self_eq_false, g1', g2']
end Go.Proofs.Ytgofljmnlfnlnaa

/- Part Ma. -/
namespace Go.Oc
open Go Go.Pm Go.Proofs.Ytgofljmnlfnlnaa
theorem feas_pair {v : Vial} {l : List Mk} {z : Int} (h : feas v l z) {m m' : Mk} (h1 : m ∈ l) (h2 : m' ∈ l) : outM m z - v.wr ≤ outM m' z + v.wr := by
  have hle := h.2
  have key := (fold_in_iff (w := v.wr) (z := z) (c := 1) (t := (withinS v.wr l z).lo) (by omega) l ⟨-10000, 10000⟩).1 (by
    rw [show l.foldl (inS v.wr z) ⟨-10000, 10000⟩ = withinS v.wr l z from rfl]; omega)
  have a := key.2 m h1
  have b := key.2 m' h2
  have key2 := (fold_in_iff (w := v.wr) (z := z) (c := 1) (t := (withinS v.wr l z).hi) (by omega) l ⟨-10000, 10000⟩).1 (by
    rw [show l.foldl (inS v.wr z) ⟨-10000, 10000⟩ = withinS v.wr l z from rfl]; omega)
  have c := key2.2 m h1
  have d := key2.2 m' h2
  omega
theorem outM_mid (x : Rd) (z : Int) : outM (mid x) z = if x.turned then z - (x.left + x.right) else x.left + x.right - z := rfl
/-- THE THEOREM OF THE TURNED LEVEL, plainly. -/
theorem turned {v : Vial} {l : List Rd} (h : (tiltR v l).e = 0) : v.ok = true ∧ rdsOk v l = true ∧ (v.z0 ≤ (tiltR v l).zero.lo ∧ (tiltR v l).zero.lo ≤ v.z1) ∧ (v.z0 ≤ (tiltR v l).zero.hi ∧ (tiltR v l).zero.hi ≤ v.z1) ∧
    ∀ x ∈ l, ∀ y ∈ l, x.turned ≠ y.turned → 2 * (tiltR v l).zero.lo ≥ x.left + x.right + y.left + y.right - 2 * v.wr ∧ 2 * (tiltR v l).zero.hi ≤ x.left + x.right + y.left + y.right + 2 * v.wr := by
  unfold tiltR at h ⊢
  by_cases hk : asked v l = 0
  · rw [if_pos hk] at h ⊢
    cases hi : (tilts v (l.map mid)).is with
    | false => rw [hi] at h; simp at h
    | true =>
      obtain ⟨hv, hr⟩ := asked_zero hk
      obtain ⟨_, _, h3, h4⟩ := tilts_at hi
      simp only [if_true]
      refine ⟨hv, hr, h3.1, h4.1, fun x hx y hy hxy => ?_⟩
      have mx : mid x ∈ l.map mid := List.mem_map_of_mem hx
      have my : mid y ∈ l.map mid := List.mem_map_of_mem hy
      have a := feas_pair h3 mx my
      have b := feas_pair h3 my mx
      have c := feas_pair h4 mx my
      have d := feas_pair h4 my mx
      simp only [outM_mid] at a b c d
      cases hxt : x.turned <;> cases hyt : y.turned <;> rw [hxt, hyt] at hxy a b c d <;> simp at hxy a b c d <;> omega
  · rw [if_neg hk] at h; exact absurd h hk
theorem rd_bounds {v : Vial} {l : List Rd} (hv : v.ok = true) (hr : rdsOk v l = true) {x : Rd} (hx : x ∈ l) : (0 ≤ x.left ∧ x.left ≤ 200) ∧ 0 ≤ x.right ∧ x.right ≤ 200 := by
  have hv' := Vial.ok_iff.1 hv
  simp only [rdsOk, Bool.and_eq_true, List.all_eq_true] at hr
  have := hr.2 x hx
  simp only [rdOk, inB, Bool.and_eq_true, decide_eq_true_eq] at this
  omega
end Go.Oc
namespace Go.Proofs.Ytgofljmnlfnlnaa
open Go.RowKit Go.Pm Go.Oc
set_option maxRecDepth 100000
set_option linter.unusedVariables false
set_option maxHeartbeats 4000000

theorem LevelTurned_c (v : Vial) {l : List Rd} {s : TV} (hs : IsRow Rd.cs s l) (hl : l.length ≤ 5864062014806) (n0 n1 : Int) : PCalls Try.prog 10 [v.t, s, .agg [.int .i64 n0, .int .i64 n1]] (.bool true) := by
  have hte := tilt_e v l
  have key := turned (v := v) (l := l)
  have ht : ∃ t, tiltR v l = t := ⟨_, rfl⟩
  obtain ⟨⟨⟨t0, t1⟩, ⟨z0, z1⟩, te⟩, ht⟩ := ht
  rw [ht] at hte key
  simp only [Span.mk.injEq] at hte key
  refine pcalls_by Try.mixes spO1_ok (fn := Try.f10) Try.func10 rfl (by kernel_rfl) (by show 3 ≤ _; decide) ?_
  by_cases h0 : te = 0
  · subst h0
    obtain ⟨hv, hr, hz0, hz1, key⟩ := key rfl
    have hv' := Vial.ok_iff.1 hv
    have h8 := rdsOk_len hr
    obtain ⟨full, rfl⟩ := hs.ne h8.1
    have g0 : ((l.length : Int) == 0) = false := beq_int_f (by omega)
    have g8 : ¬ (l.length : Int) > 8 := by omega
    have c1 : 0 < (l.length : Int) ∧ (l.length : Int) ≤ 9223372036854775807 := by omega
    have i0 := Int.emod_nonneg n0 (show (l.length : Int) ≠ 0 by omega)
    have i1 := Int.emod_lt_of_pos n0 (show (0 : Int) < l.length by omega)
    have j0 := Int.emod_nonneg n1 (show (l.length : Int) ≠ 0 by omega)
    have j1 := Int.emod_lt_of_pos n1 (show (0 : Int) < l.length by omega)
    obtain ⟨i, hi⟩ : ∃ i : Nat, n0 % (l.length : Int) = i := ⟨(n0 % l.length).toNat, (Int.toNat_of_nonneg i0).symm⟩
    obtain ⟨j, hj⟩ : ∃ j : Nat, n1 % (l.length : Int) = j := ⟨(n1 % l.length).toNat, (Int.toNat_of_nonneg j0).symm⟩
    rw [hi] at i1
    rw [hj] at j1
    obtain ⟨x, hx⟩ := get_lt i1
    obtain ⟨y, hy⟩ := get_lt j1
    have hdx := flat_at Rd.cs (n := 3) (fun _ => rfl) hx
    have hdy := flat_at Rd.cs (n := 3) (fun _ => rfl) hy
    have bx := rd_bounds hv hr (List.mem_of_getElem? hx)
    have bY := rd_bounds hv hr (List.mem_of_getElem? hy)
    have w1 : IntKind.i64.wrap (x.left + x.right) = x.left + x.right := wrap_in (by omega) (by omega)
    have w2 : IntKind.i64.wrap (x.left + x.right + y.left) = x.left + x.right + y.left := wrap_in (by omega) (by omega)
    have w3 : IntKind.i64.wrap (x.left + x.right + y.left + y.right) = x.left + x.right + y.left + y.right := wrap_in (by omega) (by omega)
    have w4 : IntKind.i64.wrap (2 * z0) = 2 * z0 := wrap_in (by omega) (by omega)
    have w5 : IntKind.i64.wrap (2 * z1) = 2 * z1 := wrap_in (by omega) (by omega)
    have w6 : IntKind.i64.wrap (2 * v.wr) = 2 * v.wr := wrap_in (by omega) (by omega)
    have w7 : IntKind.i64.wrap (x.left + x.right + y.left + y.right - 2 * v.wr) = x.left + x.right + y.left + y.right - 2 * v.wr := wrap_in (by omega) (by omega)
    have w8 : IntKind.i64.wrap (x.left + x.right + y.left + y.right + 2 * v.wr) = x.left + x.right + y.left + y.right + 2 * v.wr := wrap_in (by omega) (by omega)
    by_cases hxy : x.turned = y.turned
    · have hxy' : (x.turned == y.turned) = true := by simpa using hxy
      simp (decide := true) (maxSteps := 4000000) only [go_sem, Nat.reduceAdd, Nat.reduceSub, Nat.reduceMul, Nat.reduceDiv, Nat.reduceMod, Nat.reduceLT, Nat.reduceLeDiff, Nat.reduceEqDiff, Nat.reduceBEq, Nat.reduceBNe, Nat.reduceGT, Int.reduceAdd, Int.reduceSub, Int.reduceMul, Int.reduceNeg, Int.reduceLT, Int.reduceLE, Int.reduceEq, Int.reduceNe, Int.reduceBEq, Int.reduceBNe, Int.reduceToNat, Int.reduceGT, Int.reduceGE, ↓reduceIte, decide_true, decide_false, eq_self, Nat.mul_one, Nat.zero_mul, Nat.one_mul, Int.le_refl, Nat.le_refl, Int.cast_ofNat_Int, Try.f10, Vial.t, Vial.cs, unRds, hl, ht, TE.t, Span.t, Span.cs, g0, g8, c1, hi, hj, i1, j1, hdx, hdy, Rd.cs, hxy', w1, w2, w3, w4, w5, w6, w7, w8]
    · have hxy' : (x.turned == y.turned) = false := by simpa using hxy
      obtain ⟨k1, k2⟩ := key x (List.mem_of_getElem? hx) y (List.mem_of_getElem? hy) hxy
      simp (decide := true) (maxSteps := 4000000) only [go_sem, Nat.reduceAdd, Nat.reduceSub, Nat.reduceMul, Nat.reduceDiv, Nat.reduceMod, Nat.reduceLT, Nat.reduceLeDiff, Nat.reduceEqDiff, Nat.reduceBEq, Nat.reduceBNe, Nat.reduceGT, Int.reduceAdd, Int.reduceSub, Int.reduceMul, Int.reduceNeg, Int.reduceLT, Int.reduceLE, Int.reduceEq, Int.reduceNe, Int.reduceBEq, Int.reduceBNe, Int.reduceToNat, Int.reduceGT, Int.reduceGE, ↓reduceIte, decide_true, decide_false, eq_self, Nat.mul_one, Nat.zero_mul, Nat.one_mul, Int.le_refl, Nat.le_refl, Int.cast_ofNat_Int, Try.f10, Vial.t, Vial.cs, unRds, hl, ht, TE.t, Span.t, Span.cs, g0, g8, c1, hi, hj, i1, j1, hdx, hdy, Rd.cs, hxy', w1, w2, w3, w4, w5, w6, w7, w8, k1, k2]
  · have h0' : (te != 0) = true := by simpa using h0
    obtain ⟨_, rfl, rfl⟩ := hte.resolve_left h0
    rcases hs with ⟨rfl, rfl⟩ | ⟨full, rfl⟩
    · simp (decide := true) (maxSteps := 4000000) only [go_sem, Nat.reduceAdd, Nat.reduceSub, Nat.reduceMul, Nat.reduceDiv, Nat.reduceMod, Nat.reduceLT, Nat.reduceLeDiff, Nat.reduceEqDiff, Nat.reduceBEq, Nat.reduceBNe, Nat.reduceGT, Int.reduceAdd, Int.reduceSub, Int.reduceMul, Int.reduceNeg, Int.reduceLT, Int.reduceLE, Int.reduceEq, Int.reduceNe, Int.reduceBEq, Int.reduceBNe, Int.reduceToNat, Int.reduceGT, Int.reduceGE, ↓reduceIte, decide_true, decide_false, eq_self, Nat.mul_one, Nat.zero_mul, Nat.one_mul, Int.le_refl, Nat.le_refl, Int.cast_ofNat_Int, Try.f10, Vial.t, Vial.cs, unRds, hl, ht, h0', TE.t, Span.t, Span.cs, List.length_nil, beq_self_eq_true, bne_self_eq_false]
    · simp (decide := true) (maxSteps := 4000000) only [go_sem, Nat.reduceAdd, Nat.reduceSub, Nat.reduceMul, Nat.reduceDiv, Nat.reduceMod, Nat.reduceLT, Nat.reduceLeDiff, Nat.reduceEqDiff, Nat.reduceBEq, Nat.reduceBNe, Nat.reduceGT, Int.reduceAdd, Int.reduceSub, Int.reduceMul, Int.reduceNeg, Int.reduceLT, Int.reduceLE, Int.reduceEq, Int.reduceNe, Int.reduceBEq, Int.reduceBNe, Int.reduceToNat, Int.reduceGT, Int.reduceGE, ↓reduceIte, decide_true, decide_false, eq_self, Nat.mul_one, Nat.zero_mul, Nat.one_mul, Int.le_refl, Nat.le_refl, Int.cast_ofNat_Int, Try.f10, Vial.t, Vial.cs, unRds, hl, ht, h0', TE.t, Span.t, Span.cs, List.length_nil, beq_self_eq_true, bne_self_eq_false]
end Go.Proofs.Ytgofljmnlfnlnaa

/- Part Md. -/
namespace Go.Proofs.Ytgofljmnlfnlnaa
open Go.RowKit Go.Pm Go.Oc
set_option maxRecDepth 100000
set_option linter.unusedVariables false

theorem int_cells {k : Nat} {cs : List TV} (h : cellsOk Try.prog (k + 1) 3 cs) : ∃ n, cs = [.int .i64 n] ∧ In64 n := cellsOk_i64 (by kernel_rfl) h
theorem bool_cells {k : Nat} {cs : List TV} (h : cellsOk Try.prog (k + 1) 4 cs) : ∃ b, cs = [.bool b] := cellsOk_boolT (by kernel_rfl) h
theorem span_cells {k : Nat} {cs : List TV} (h : cellsOk Try.prog (k + 2) 23 cs) : ∃ s : Span, cs = s.cs ∧ In64 s.lo ∧ In64 s.hi := by
  have h := cellsOk_tys (ts := [3, 3]) (by kernel_rfl) h
  obtain ⟨_, r, rfl, h1, h⟩ := seqOk_cons h
  obtain ⟨_, r, rfl, h2, h⟩ := seqOk_cons h
  cases seqOk_nil h
  obtain ⟨a, rfl, ha⟩ := int_cells h1
  obtain ⟨b, rfl, hb⟩ := int_cells h2
  exact ⟨⟨a, b⟩, rfl, ha, hb⟩
theorem vial_cells {k : Nat} {cs : List TV} (h : cellsOk Try.prog (k + 3) 25 cs) : ∃ v : Vial, cs = v.cs ∧ (In64 v.marks ∧ In64 v.l0 ∧ In64 v.l1 ∧ In64 v.v0 ∧ In64 v.v1 ∧ In64 v.z0 ∧ In64 v.z1 ∧ In64 v.wr) := by
  have h := cellsOk_tys (ts := [3, 23, 23, 23, 3]) (by kernel_rfl) h
  obtain ⟨_, r, rfl, h1, h⟩ := seqOk_cons h
  obtain ⟨_, r, rfl, h2, h⟩ := seqOk_cons h
  obtain ⟨_, r, rfl, h3, h⟩ := seqOk_cons h
  obtain ⟨_, r, rfl, h4, h⟩ := seqOk_cons h
  obtain ⟨_, r, rfl, h5, h⟩ := seqOk_cons h
  cases seqOk_nil h
  obtain ⟨m, rfl, im⟩ := int_cells h1
  obtain ⟨a, rfl, ia, ia'⟩ := span_cells h2
  obtain ⟨b, rfl, ib, ib'⟩ := span_cells h3
  obtain ⟨c, rfl, ic, ic'⟩ := span_cells h4
  obtain ⟨g, rfl, ig⟩ := int_cells h5
  exact ⟨⟨m, a.lo, a.hi, b.lo, b.hi, c.lo, c.hi, g⟩, rfl, im, ia, ia', ib, ib', ic, ic', ig⟩
theorem rd_cells {k : Nat} {cs : List TV} (h : cellsOk Try.prog (k + 2) 57 cs) : ∃ r : Rd, cs = r.cs ∧ In64 r.left ∧ In64 r.right := by
  have h := cellsOk_tys (ts := [3, 3, 4]) (by kernel_rfl) h
  obtain ⟨_, r, rfl, h1, h⟩ := seqOk_cons h
  obtain ⟨_, r, rfl, h2, h⟩ := seqOk_cons h
  obtain ⟨_, r, rfl, h3, h⟩ := seqOk_cons h
  cases seqOk_nil h
  obtain ⟨a, rfl, ia⟩ := int_cells h1
  obtain ⟨b, rfl, ib⟩ := int_cells h2
  obtain ⟨c, rfl⟩ := bool_cells h3
  exact ⟨⟨a, b, c⟩, rfl, ia, ib⟩
theorem spanArg {x : TV} (h : argOk Try.prog 23 x) : ∃ s : Span, x = s.t ∧ In64 s.lo ∧ In64 s.hi := by
  obtain ⟨cs, rfl, h'⟩ := argOk_agg (ts := [3, 3]) (by kernel_rfl) h
  obtain ⟨s, rfl, h''⟩ := span_cells h'
  exact ⟨s, rfl, h''⟩
theorem intArg {x : TV} (h : argOk Try.prog 3 x) : ∃ n, x = .int .i64 n ∧ In64 n := argOk_i64 (by kernel_rfl) h
theorem vialArg {x : TV} (h : argOk Try.prog 25 x) : ∃ v : Vial, x = v.t := by
  obtain ⟨cs, rfl, h'⟩ := argOk_agg (ts := [3, 23, 23, 23, 3]) (by kernel_rfl) h
  obtain ⟨s, rfl, _⟩ := vial_cells h'
  exact ⟨s, rfl⟩
theorem rdArg {x : TV} (h : argOk Try.prog 57 x) : ∃ r : Rd, x = .agg r.cs ∧ In64 r.left ∧ In64 r.right := by
  obtain ⟨cs, rfl, h'⟩ := argOk_agg (ts := [3, 3, 4]) (by kernel_rfl) h
  obtain ⟨s, rfl, h''⟩ := rd_cells h'
  exact ⟨s, rfl, h''⟩
theorem truthArg {x : TV} (h : argOk Try.prog 28 x) : ∃ a b c, x = .agg [.int .i64 a, .int .i64 b, .int .i64 c] ∧ In64 a ∧ In64 b ∧ In64 c := by
  obtain ⟨cs, rfl, h'⟩ := argOk_agg (ts := [3, 3, 3]) (by kernel_rfl) h
  have h := cellsOk_tys (ts := [3, 3, 3]) (by kernel_rfl) h'
  obtain ⟨_, r, rfl, h1, h⟩ := seqOk_cons h
  obtain ⟨_, r, rfl, h2, h⟩ := seqOk_cons h
  obtain ⟨_, r, rfl, h3, h⟩ := seqOk_cons h
  cases seqOk_nil h
  obtain ⟨a, rfl, ia⟩ := int_cells h1
  obtain ⟨b, rfl, ib⟩ := int_cells h2
  obtain ⟨c, rfl, ic⟩ := int_cells h3
  exact ⟨a, b, c, rfl, ia, ib, ic⟩
theorem pairOf {t : TypeId} (ht : tysOf Try.prog t = some [3, 3]) {x : TV} (h : argOk Try.prog t x) : ∃ a b, x = .agg [.int .i64 a, .int .i64 b] ∧ In64 a ∧ In64 b := by
  obtain ⟨cs, rfl, h'⟩ := argOk_agg ht h
  have h := cellsOk_tys ht h'
  obtain ⟨_, r, rfl, h1, h⟩ := seqOk_cons h
  obtain ⟨_, r, rfl, h2, h⟩ := seqOk_cons h
  cases seqOk_nil h
  obtain ⟨a, rfl, ia⟩ := int_cells h1
  obtain ⟨b, rfl, ib⟩ := int_cells h2
  exact ⟨a, b, rfl, ia, ib⟩
theorem pairArg {x : TV} (h : argOk Try.prog 55 x) : ∃ a b, x = .agg [.int .i64 a, .int .i64 b] ∧ In64 a ∧ In64 b := pairOf (by kernel_rfl) h
theorem wishArg {x : TV} (h : argOk Try.prog 49 x) : ∃ a b, x = .agg [.int .i64 a, .int .i64 b] ∧ In64 a ∧ In64 b := pairOf (by kernel_rfl) h
theorem fiveArg {x : TV} (h : argOk Try.prog 69 x) : ∃ a b c d e, x = .agg [.int .i64 a, .int .i64 b, .int .i64 c, .int .i64 d, .int .i64 e] ∧ In64 a ∧ In64 b ∧ In64 c ∧ In64 d ∧ In64 e := by
  have ht : tysOf Try.prog 69 = some [3, 3, 3, 3, 3] := by kernel_rfl
  obtain ⟨cs, rfl, h'⟩ := argOk_agg ht h
  have h := cellsOk_tys ht h'
  obtain ⟨_, r, rfl, h1, h⟩ := seqOk_cons h
  obtain ⟨_, r, rfl, h2, h⟩ := seqOk_cons h
  obtain ⟨_, r, rfl, h3, h⟩ := seqOk_cons h
  obtain ⟨_, r, rfl, h4, h⟩ := seqOk_cons h
  obtain ⟨_, r, rfl, h5, h⟩ := seqOk_cons h
  cases seqOk_nil h
  obtain ⟨a, rfl, ia⟩ := int_cells h1
  obtain ⟨b, rfl, ib⟩ := int_cells h2
  obtain ⟨c, rfl, ic⟩ := int_cells h3
  obtain ⟨d, rfl, id⟩ := int_cells h4
  obtain ⟨e, rfl, ie⟩ := int_cells h5
  exact ⟨a, b, c, d, e, rfl, ia, ib, ic, id, ie⟩
theorem rdsArg {x : TV} (h : argOk Try.prog 26 x) : ∃ l : List Rd, IsRow Rd.cs x l ∧ l.length ≤ 5864062014634 ∧ ∀ r ∈ l, In64 r.left ∧ In64 r.right := by
  obtain ⟨l, h1, h2, h3, _⟩ := cellsOk_row (e := 57) (c := Rd.cs) (k := 19) (by kernel_rfl) (fun cs hc => rd_cells hc) (argOk_sl (e := 57) (by kernel_rfl) h)
  rw [show Program.bytesOf Try.prog 57 = 24 by kernel_rfl] at h3
  unfold reachBytes at h3
  exact ⟨l, h1, by omega, h2⟩
theorem vialsArg {x : TV} (h : argOk Try.prog 47 x) : ∃ l : List Vial, IsRow Vial.cs x l ∧ l.length ≤ 2199023255551 := by
  obtain ⟨l, h1, h2, h3, _⟩ := cellsOk_row (e := 25) (c := Vial.cs) (k := 19) (by kernel_rfl) (fun cs hc => vial_cells hc) (argOk_sl (e := 25) (by kernel_rfl) h)
  rw [show Program.bytesOf Try.prog 25 = 64 by kernel_rfl] at h3
  unfold reachBytes at h3
  exact ⟨l, h1, by omega⟩
theorem intsArg {x : TV} (h : argOk Try.prog 37 x) : ∃ l : List Int, IsRow ic x l ∧ l.length ≤ 17592186044415 := by
  obtain ⟨l, h1, h2, h3, _⟩ := cellsOk_row (e := 3) (c := ic) (k := 19) (p := fun n => In64 n) (by kernel_rfl) (fun cs hc => int_cells hc) (argOk_sl (e := 3) (by kernel_rfl) h)
  rw [show Program.bytesOf Try.prog 3 = 8 by kernel_rfl] at h3
  unfold reachBytes at h3
  exact ⟨l, h1, by omega⟩
end Go.Proofs.Ytgofljmnlfnlnaa

/- Part Me. -/
namespace Go.Oc
open Go Go.Pm Go.Proofs.Ytgofljmnlfnlnaa
theorem faultTo_out {v : Vial} {k : Nat} (h : ¬ (v.l1 ≤ k ∧ (k : Int) ≤ 2 * v.marks - v.l1)) : faultTo v (k + 1) = faultTo v k := by
  rw [faultTo_succ]
  unfold faultStep
  rw [show inB k v.l1 (2 * v.marks - v.l1) = false by rw [← Bool.not_eq_true, inB_iff]; exact h, Bool.false_and]
  rfl
theorem faultTo_low {v : Vial} : ∀ {k : Nat}, (k : Int) ≤ v.l1 → faultTo v k = 0
  | 0, _ => rfl
  | k + 1, h => by rw [faultTo_out (by omega), faultTo_low (by omega)]
theorem faultTo_high {v : Vial} {k : Nat} (h : (k : Int) > 2 * v.marks - v.l1) : ∀ d, faultTo v (k + d) = faultTo v k
  | 0 => rfl
  | d + 1 => by rw [← Nat.add_assoc, faultTo_out (by omega), faultTo_high h d]
theorem okTo_mono {st : List Vial} {pr : List Int} {rg fl : Int} {k : Nat} (h : okTo st pr rg fl k = false) : ∀ d, okTo st pr rg fl (k + d) = false
  | 0 => h
  | d + 1 => by rw [← Nat.add_assoc, okTo_succ, okTo_mono h d, Bool.false_and]
theorem bestOf_snoc (l : List Of) (x : Of) : bestOf (l ++ [x]) = bestStep (bestOf l) x := by unfold bestOf; rw [List.foldl_append]; rfl
theorem bestOf_mem (l : List Of) : ∀ x, bestOf l = some x → x ∈ l := by
  refine snoc_ind (p := fun l => ∀ x, bestOf l = some x → x ∈ l) (fun x h => by cases h) (fun l y ih x h => ?_) l
  rw [bestOf_snoc] at h
  unfold bestStep at h
  split at h
  · cases h; simp
  · rename_i z hz
    split at h
    · cases h; simp
    · cases h; exact List.mem_append_left _ (ih _ hz)
theorem offTo_mem {st : List Vial} {pr : List Int} {rg fl : Int} {k : Nat} {x : Of} (h : x ∈ offTo st pr rg fl k) : ∃ i : Nat, i < k ∧ x.i = i ∧ pr[i]? = some x.p ∧ ∃ v, st[i]? = some v ∧ x.v = v ∧ doesP v rg fl = true := by
  unfold offTo at h
  rw [List.mem_filterMap] at h
  obtain ⟨i, hi, h⟩ := h
  rw [List.mem_range] at hi
  unfold offAt at h
  split at h
  · rename_i v p hv hp
    split at h
    · rename_i hd; cases h; exact ⟨i, hi, rfl, hp, v, hv, rfl, hd⟩
    · cases h
  · cases h
/-- The best one's place, or -1. -/
def bI (st : List Vial) (pr : List Int) (rg fl : Int) (k : Nat) : Int := match bestOf (offTo st pr rg fl k) with | some x => x.i | none => -1
end Go.Oc
namespace Go.Proofs.Ytgofljmnlfnlnaa
open Go.RowKit Go.Pm Go.Oc
set_option maxRecDepth 100000
set_option linter.unusedVariables false
set_option maxHeartbeats 4000000

theorem unMks_one (a : Int) (t : Bool) : unMks [.int .i64 a, .bool t] = some [⟨a, t⟩] := rfl
attribute [go_sem] unMks_one
theorem rFault_c (v : Vial) (hv : v.ok = true) : PCalls Try.prog 76 [v.t] (.int .i64 (faultOf v)) := by
  have hv' := Vial.ok_iff.1 hv
  refine pcalls_by Try.mixes spR3_ok (fn := Try.f76) Try.func76 rfl (by kernel_rfl) (by show 1 ≤ _; decide) ?_
  have w1 : IntKind.i64.wrap (2 * v.marks) = 2 * v.marks := wrap_in (by omega) (by omega)
  have w3 : IntKind.i64.wrap (2 * v.marks - v.l1) = 2 * v.marks - v.l1 := wrap_in (by omega) (by omega)
  simp (decide := true) (maxSteps := 4000000) only [go_sem, Nat.reduceAdd, Nat.reduceSub, Nat.reduceMul, Nat.reduceDiv, Nat.reduceMod, Nat.reduceLT, Nat.reduceLeDiff, Nat.reduceEqDiff, Nat.reduceBEq, Nat.reduceBNe, Nat.reduceGT, Int.reduceAdd, Int.reduceSub, Int.reduceMul, Int.reduceNeg, Int.reduceLT, Int.reduceLE, Int.reduceEq, Int.reduceNe, Int.reduceBEq, Int.reduceBNe, Int.reduceToNat, Int.reduceGT, Int.reduceGE, ↓reduceIte, decide_true, decide_false, eq_self, Nat.mul_one, Nat.zero_mul, Nat.one_mul, Int.le_refl, Nat.le_refl, Int.cast_ofNat_Int, Try.f76, Vial.t, Vial.cs, w1, w3]
  refine pwpC_loopU (A := { k : Nat // v.l1 ≤ k ∧ k ≤ 401 }) [1] (fun k => [(4, .t (.int .i64 k.1)), (3, .t (.int .i64 (faultTo v k.1)))]) (fun _ => []) (fun k => 401 - k.1) ⟨v.l1.toNat, by omega, by omega⟩ (by decide) (fun _ => by rfl) ?_ fun Q1 hQ1 ⟨k, hk0, hk⟩ I1 hI1 => ?_
  · have e := faultTo_low (v := v) (k := v.l1.toNat) (by omega)
    simp (decide := true) (maxSteps := 4000000) only [go_sem, Nat.reduceAdd, Nat.reduceSub, Nat.reduceMul, Nat.reduceDiv, Nat.reduceMod, Nat.reduceLT, Nat.reduceLeDiff, Nat.reduceEqDiff, Nat.reduceBEq, Nat.reduceBNe, Nat.reduceGT, Int.reduceAdd, Int.reduceSub, Int.reduceMul, Int.reduceNeg, Int.reduceLT, Int.reduceLE, Int.reduceEq, Int.reduceNe, Int.reduceBEq, Int.reduceBNe, Int.reduceToNat, Int.reduceGT, Int.reduceGE, ↓reduceIte, decide_true, decide_false, eq_self, Nat.mul_one, Nat.zero_mul, Nat.one_mul, Int.le_refl, Nat.le_refl, Int.cast_ofNat_Int, e]
    omega
  · by_cases hlt : (k : Int) ≤ 2 * v.marks - v.l1
    · have hc1 : IntKind.i64.wrap (k + 1) = ((k + 1 : Nat) : Int) := by rw [wrap_in (by omega) (by omega)]; omega
      have hs := faultTo_succ v k
      unfold faultStep at hs
      rw [show inB k v.l1 (2 * v.marks - v.l1) = true from inB_iff.2 ⟨hk0, hlt⟩, Bool.true_and] at hs
      have hm : mksOk [(⟨k, false⟩ : Mk)] = true := by simp [mksOk, inB]; omega
      have hbd := tilts_bound hv hm
      cases hi : (tilts v [⟨k, false⟩]).is with
      | false =>
        rw [hi] at hs
        simp (decide := true) (maxSteps := 4000000) only [go_sem, Nat.reduceAdd, Nat.reduceSub, Nat.reduceMul, Nat.reduceDiv, Nat.reduceMod, Nat.reduceLT, Nat.reduceLeDiff, Nat.reduceEqDiff, Nat.reduceBEq, Nat.reduceBNe, Nat.reduceGT, Int.reduceAdd, Int.reduceSub, Int.reduceMul, Int.reduceNeg, Int.reduceLT, Int.reduceLE, Int.reduceEq, Int.reduceNe, Int.reduceBEq, Int.reduceBNe, Int.reduceToNat, Int.reduceGT, Int.reduceGE, ↓reduceIte, decide_true, decide_false, eq_self, Nat.mul_one, Nat.zero_mul, Nat.one_mul, Int.le_refl, Nat.le_refl, Int.cast_ofNat_Int, hlt, w1, w3, hv, hm, hi, Vial.cs, TZ.t, Span.t, Span.cs]
        refine hI1 _ ⟨k + 1, by omega, by omega⟩ (by simp only; omega) ?_
        simp (decide := true) (maxSteps := 4000000) only [go_sem, Nat.reduceAdd, Nat.reduceSub, Nat.reduceMul, Nat.reduceDiv, Nat.reduceMod, Nat.reduceLT, Nat.reduceLeDiff, Nat.reduceEqDiff, Nat.reduceBEq, Nat.reduceBNe, Nat.reduceGT, Int.reduceAdd, Int.reduceSub, Int.reduceMul, Int.reduceNeg, Int.reduceLT, Int.reduceLE, Int.reduceEq, Int.reduceNe, Int.reduceBEq, Int.reduceBNe, Int.reduceToNat, Int.reduceGT, Int.reduceGE, ↓reduceIte, decide_true, decide_false, eq_self, Nat.mul_one, Nat.zero_mul, Nat.one_mul, Int.le_refl, Nat.le_refl, Int.cast_ofNat_Int, hc1, hs, Vial.cs]
      | true =>
        rw [hi] at hs
        unfold wideT at hs
        have w4 : IntKind.i64.wrap ((tilts v [⟨k, false⟩]).tilt.hi - (tilts v [⟨k, false⟩]).tilt.lo) = (tilts v [⟨k, false⟩]).tilt.hi - (tilts v [⟨k, false⟩]).tilt.lo := wrap_in (by omega) (by omega)
        simp (decide := true) (maxSteps := 4000000) only [go_sem, Nat.reduceAdd, Nat.reduceSub, Nat.reduceMul, Nat.reduceDiv, Nat.reduceMod, Nat.reduceLT, Nat.reduceLeDiff, Nat.reduceEqDiff, Nat.reduceBEq, Nat.reduceBNe, Nat.reduceGT, Int.reduceAdd, Int.reduceSub, Int.reduceMul, Int.reduceNeg, Int.reduceLT, Int.reduceLE, Int.reduceEq, Int.reduceNe, Int.reduceBEq, Int.reduceBNe, Int.reduceToNat, Int.reduceGT, Int.reduceGE, ↓reduceIte, decide_true, decide_false, eq_self, Nat.mul_one, Nat.zero_mul, Nat.one_mul, Int.le_refl, Nat.le_refl, Int.cast_ofNat_Int, hlt, w1, w3, w4, hv, hm, hi, Vial.cs, TZ.t, Span.t, Span.cs]
        refine hI1 _ ⟨k + 1, by omega, by omega⟩ (by simp only; omega) ?_
        simp (decide := true) (maxSteps := 4000000) only [go_sem, Nat.reduceAdd, Nat.reduceSub, Nat.reduceMul, Nat.reduceDiv, Nat.reduceMod, Nat.reduceLT, Nat.reduceLeDiff, Nat.reduceEqDiff, Nat.reduceBEq, Nat.reduceBNe, Nat.reduceGT, Int.reduceAdd, Int.reduceSub, Int.reduceMul, Int.reduceNeg, Int.reduceLT, Int.reduceLE, Int.reduceEq, Int.reduceNe, Int.reduceBEq, Int.reduceBNe, Int.reduceToNat, Int.reduceGT, Int.reduceGE, ↓reduceIte, decide_true, decide_false, eq_self, Nat.mul_one, Nat.zero_mul, Nat.one_mul, Int.le_refl, Nat.le_refl, Int.cast_ofNat_Int, hc1, hs, Vial.cs]
    · simp (decide := true) (maxSteps := 4000000) only [go_sem, Nat.reduceAdd, Nat.reduceSub, Nat.reduceMul, Nat.reduceDiv, Nat.reduceMod, Nat.reduceLT, Nat.reduceLeDiff, Nat.reduceEqDiff, Nat.reduceBEq, Nat.reduceBNe, Nat.reduceGT, Int.reduceAdd, Int.reduceSub, Int.reduceMul, Int.reduceNeg, Int.reduceLT, Int.reduceLE, Int.reduceEq, Int.reduceNe, Int.reduceBEq, Int.reduceBNe, Int.reduceToNat, Int.reduceGT, Int.reduceGE, ↓reduceIte, decide_true, decide_false, eq_self, Nat.mul_one, Nat.zero_mul, Nat.one_mul, Int.le_refl, Nat.le_refl, Int.cast_ofNat_Int, hlt, w1, w3]
      refine hQ1 _ _ ?_
      have e := faultTo_high (v := v) (k := k) (by omega) ((2 * v.marks + 1).toNat - k)
      have e2 : faultOf v = faultTo v k := by
        rcases Nat.le_total k (2 * v.marks + 1).toNat with h | h
        · rw [← e, show k + ((2 * v.marks + 1).toNat - k) = (2 * v.marks + 1).toNat by omega]; rfl
        · have e3 := faultTo_high (v := v) (k := (2 * v.marks + 1).toNat) (by omega) (k - (2 * v.marks + 1).toNat)
          rw [show (2 * v.marks + 1).toNat + (k - (2 * v.marks + 1).toNat) = k by omega] at e3
          exact e3.symm
      simp (decide := true) (maxSteps := 4000000) only [go_sem, Nat.reduceAdd, Nat.reduceSub, Nat.reduceMul, Nat.reduceDiv, Nat.reduceMod, Nat.reduceLT, Nat.reduceLeDiff, Nat.reduceEqDiff, Nat.reduceBEq, Nat.reduceBNe, Nat.reduceGT, Int.reduceAdd, Int.reduceSub, Int.reduceMul, Int.reduceNeg, Int.reduceLT, Int.reduceLE, Int.reduceEq, Int.reduceNe, Int.reduceBEq, Int.reduceBNe, Int.reduceToNat, Int.reduceGT, Int.reduceGE, ↓reduceIte, decide_true, decide_false, eq_self, Nat.mul_one, Nat.zero_mul, Nat.one_mul, Int.le_refl, Nat.le_refl, Int.cast_ofNat_Int, e2]
noncomputable def grFault : List TV → Option TV
  | [.agg [.int .i64 m, .int .i64 a, .int .i64 b, .int .i64 c, .int .i64 d, .int .i64 e, .int .i64 f, .int .i64 g]] => if Vial.ok ⟨m, a, b, c, d, e, f, g⟩ = true then some (.int .i64 (faultOf ⟨m, a, b, c, d, e, f, g⟩)) else none
  | _ => none
theorem grFault_ok : ∀ xs r, grFault xs = some r → PCalls Try.prog 76 xs r := by
  intro xs r h
  unfold grFault at h
  split at h
  · split at h
    · rename_i hc; cases h; exact rFault_c ⟨_, _, _, _, _, _, _, _⟩ hc
    · cases h
  · cases h
attribute [go_sem] grFault
noncomputable def spM1 : Pm.Spec := spR3.one 76 grFault
@[go_sem] theorem spM1_p (f : FuncId) (xs : List TV) : spM1.p f xs = Pm.Spec.p (spR3.one 76 grFault) f xs := rfl
@[go_sem] theorem spM1_h (f : FuncId) (ps : List PV) (hl : List PO) : spM1.h f ps hl = Pm.Spec.h (spR3.one 76 grFault) f ps hl := rfl
@[go_sem] theorem spM1_fz (f : FuncId) : spM1.fz f = Pm.Spec.fz (spR3.one 76 grFault) f := rfl
@[go_sem] theorem spM1_fr (f : FuncId) : spM1.fr f = Pm.Spec.fr (spR3.one 76 grFault) f := rfl
@[go_sem] theorem spM1_mu (t : TypeId) : spM1.mu t = Pm.Spec.mu (spR3.one 76 grFault) t := rfl
theorem spM1_ok : SpecOk Try.prog spM1 := Spec.one_ok grFault_ok spR3_ok
theorem rDoes_c (v : Vial) (hv : v.ok = true) (rg fl : Int) : PCalls Try.prog 67 [v.t, .agg [.int .i64 rg, .int .i64 fl]] (.bool (doesP v rg fl)) := by
  have hv' := Vial.ok_iff.1 hv
  refine pcalls_by Try.mixes spM1_ok (fn := Try.f67) Try.func67 rfl (by kernel_rfl) (by show 2 ≤ _; decide) ?_
  have w1 : IntKind.i64.wrap (2 * v.marks) = 2 * v.marks := wrap_in (by omega) (by omega)
  have w3 : IntKind.i64.wrap (2 * v.marks - v.l1) = 2 * v.marks - v.l1 := wrap_in (by omega) (by omega)
  have w4 : IntKind.i64.wrap (2 * v.marks - v.l1 - v.z1) = 2 * v.marks - v.l1 - v.z1 := wrap_in (by omega) (by omega)
  have w5 : IntKind.i64.wrap (v.z0 - v.l1) = v.z0 - v.l1 := wrap_in (by omega) (by omega)
  have hmb : -10000 ≤ min (v.z0 - v.l1) (2 * v.marks - v.l1 - v.z1) ∧ min (v.z0 - v.l1) (2 * v.marks - v.l1 - v.z1) ≤ 10000 := by omega
  have p := mulB (a := min (v.z0 - v.l1) (2 * v.marks - v.l1 - v.z1)) (b := v.v0) hmb (by omega)
  have w6 : IntKind.i64.wrap (v.v0 * min (v.z0 - v.l1) (2 * v.marks - v.l1 - v.z1)) = v.v0 * min (v.z0 - v.l1) (2 * v.marks - v.l1 - v.z1) := by rw [Int.mul_comm]; exact wrap_in (by omega) (by omega)
  have hc : min (2 * v.marks - v.l1 - v.z1) (v.z0 - v.l1) = min (v.z0 - v.l1) (2 * v.marks - v.l1 - v.z1) := by omega
  unfold doesP
  by_cases g1 : 2 * v.marks - v.l1 - v.z1 ≥ 0
  · by_cases g2 : v.z0 - v.l1 ≥ 0
    · have h1 : min (v.z0 - v.l1) (2 * v.marks - v.l1 - v.z1) ≥ 0 := by omega
      by_cases h2 : rg ≤ v.v0 * min (v.z0 - v.l1) (2 * v.marks - v.l1 - v.z1) <;> simp (decide := true) (maxSteps := 4000000) only [go_sem, Nat.reduceAdd, Nat.reduceSub, Nat.reduceMul, Nat.reduceDiv, Nat.reduceMod, Nat.reduceLT, Nat.reduceLeDiff, Nat.reduceEqDiff, Nat.reduceBEq, Nat.reduceBNe, Nat.reduceGT, Int.reduceAdd, Int.reduceSub, Int.reduceMul, Int.reduceNeg, Int.reduceLT, Int.reduceLE, Int.reduceEq, Int.reduceNe, Int.reduceBEq, Int.reduceBNe, Int.reduceToNat, Int.reduceGT, Int.reduceGE, ↓reduceIte, decide_true, decide_false, eq_self, Nat.mul_one, Nat.zero_mul, Nat.one_mul, Int.le_refl, Nat.le_refl, Int.cast_ofNat_Int, Try.f67, Vial.t, Vial.cs, w1, w3, w4, w5, w6, g1, g2, h1, h2, hv, hc]
    · have h1 : ¬ min (v.z0 - v.l1) (2 * v.marks - v.l1 - v.z1) ≥ 0 := by omega
      simp (decide := true) (maxSteps := 4000000) only [go_sem, Nat.reduceAdd, Nat.reduceSub, Nat.reduceMul, Nat.reduceDiv, Nat.reduceMod, Nat.reduceLT, Nat.reduceLeDiff, Nat.reduceEqDiff, Nat.reduceBEq, Nat.reduceBNe, Nat.reduceGT, Int.reduceAdd, Int.reduceSub, Int.reduceMul, Int.reduceNeg, Int.reduceLT, Int.reduceLE, Int.reduceEq, Int.reduceNe, Int.reduceBEq, Int.reduceBNe, Int.reduceToNat, Int.reduceGT, Int.reduceGE, ↓reduceIte, decide_true, decide_false, eq_self, Nat.mul_one, Nat.zero_mul, Nat.one_mul, Int.le_refl, Nat.le_refl, Int.cast_ofNat_Int, Try.f67, Vial.t, Vial.cs, w1, w3, w4, w5, w6, g1, g2, h1, hv, hc]
  · have h1 : ¬ min (v.z0 - v.l1) (2 * v.marks - v.l1 - v.z1) ≥ 0 := by omega
    simp (decide := true) (maxSteps := 4000000) only [go_sem, Nat.reduceAdd, Nat.reduceSub, Nat.reduceMul, Nat.reduceDiv, Nat.reduceMod, Nat.reduceLT, Nat.reduceLeDiff, Nat.reduceEqDiff, Nat.reduceBEq, Nat.reduceBNe, Nat.reduceGT, Int.reduceAdd, Int.reduceSub, Int.reduceMul, Int.reduceNeg, Int.reduceLT, Int.reduceLE, Int.reduceEq, Int.reduceNe, Int.reduceBEq, Int.reduceBNe, Int.reduceToNat, Int.reduceGT, Int.reduceGE, ↓reduceIte, decide_true, decide_false, eq_self, Nat.mul_one, Nat.zero_mul, Nat.one_mul, Int.le_refl, Nat.le_refl, Int.cast_ofNat_Int, Try.f67, Vial.t, Vial.cs, w1, w3, w4, w5, w6, g1, h1, hv, hc]
noncomputable def grDoes : List TV → Option TV
  | [.agg [.int .i64 m, .int .i64 a, .int .i64 b, .int .i64 c, .int .i64 d, .int .i64 e, .int .i64 f, .int .i64 g], .agg [.int .i64 rg, .int .i64 fl]] => if Vial.ok ⟨m, a, b, c, d, e, f, g⟩ = true then some (.bool (doesP ⟨m, a, b, c, d, e, f, g⟩ rg fl)) else none
  | _ => none
theorem grDoes_ok : ∀ xs r, grDoes xs = some r → PCalls Try.prog 67 xs r := by
  intro xs r h
  unfold grDoes at h
  split at h
  · split at h
    · rename_i hc; cases h; exact rDoes_c ⟨_, _, _, _, _, _, _, _⟩ hc _ _
    · cases h
  · cases h
attribute [go_sem] grDoes
noncomputable def spM2 : Pm.Spec := spM1.one 67 grDoes
@[go_sem] theorem spM2_p (f : FuncId) (xs : List TV) : spM2.p f xs = Pm.Spec.p (spM1.one 67 grDoes) f xs := rfl
@[go_sem] theorem spM2_h (f : FuncId) (ps : List PV) (hl : List PO) : spM2.h f ps hl = Pm.Spec.h (spM1.one 67 grDoes) f ps hl := rfl
@[go_sem] theorem spM2_fz (f : FuncId) : spM2.fz f = Pm.Spec.fz (spM1.one 67 grDoes) f := rfl
@[go_sem] theorem spM2_fr (f : FuncId) : spM2.fr f = Pm.Spec.fr (spM1.one 67 grDoes) f := rfl
@[go_sem] theorem spM2_mu (t : TypeId) : spM2.mu t = Pm.Spec.mu (spM1.one 67 grDoes) t := rfl
theorem spM2_ok : SpecOk Try.prog spM2 := Spec.one_ok grDoes_ok spM1_ok
end Go.Proofs.Ytgofljmnlfnlnaa

/- Part Mf. -/
namespace Go.Oc
open Go Go.Pm Go.Proofs.Ytgofljmnlfnlnaa
def gI (g : Option Int) : Int := match g with | some n => n | none => -1
theorem gI_step {v : Vial} {l : List Mk} {tu : Bool} {g : Option Int} {a : Int} (hv : v.ok = true) (hi : (tilts v (l ++ [⟨a, tu⟩])).is = true) : gI (gainStep v l tu g a) = max (gI g) ((tilts v (l ++ [⟨a, tu⟩])).tilt.hi - (tilts v (l ++ [⟨a, tu⟩])).tilt.lo) := by
  have hle := tilts_le hv hi
  unfold gainStep wideT
  rw [if_pos hi]
  cases g with
  | none => simp only [gI]; omega
  | some n => rfl
theorem gI_skip {v : Vial} {l : List Mk} {tu : Bool} {g : Option Int} {a : Int} (hi : (tilts v (l ++ [⟨a, tu⟩])).is = false) : gainStep v l tu g a = g := by
  unfold gainStep; rw [if_neg (by rw [hi]; simp)]
theorem gainTo_pos {v : Vial} (hv : v.ok = true) {l : List Mk} {tu : Bool} : ∀ {k : Nat} {n : Int}, gainTo v l tu k = some n → 0 ≤ n
  | 0, n, h => by cases h
  | k + 1, n, h => by
    rw [gainTo_succ] at h
    cases hi : (tilts v (l ++ [⟨(k : Int), tu⟩])).is with
    | false => rw [gI_skip hi] at h; exact gainTo_pos hv h
    | true =>
      have hle := tilts_le hv hi
      have := gI_step (g := gainTo v l tu k) hv hi
      rw [h] at this
      simp only [gI] at this
      split at this <;> omega
theorem feas_dup {v : Vial} {l : List Mk} {z : Int} (h : feas v l z) {m : Mk} (h1 : m ∈ l) : feas v (l ++ [m]) z := by
  have hle := h.2
  have key := (fold_in_iff (w := v.wr) (z := z) (c := 1) (t := (withinS v.wr l z).lo) (by omega) l ⟨-10000, 10000⟩).1 (by
    rw [show l.foldl (inS v.wr z) ⟨-10000, 10000⟩ = withinS v.wr l z from rfl]; omega)
  have a := key.2 m h1
  have key2 := (fold_in_iff (w := v.wr) (z := z) (c := 1) (t := (withinS v.wr l z).hi) (by omega) l ⟨-10000, 10000⟩).1 (by
    rw [show l.foldl (inS v.wr z) ⟨-10000, 10000⟩ = withinS v.wr l z from rfl]; omega)
  have c := key2.2 m h1
  refine ⟨h.1, ?_⟩
  have e : withinS v.wr (l ++ [m]) z = inS v.wr z (withinS v.wr l z) m := by unfold withinS; rw [List.foldl_append]; rfl
  rw [e]
  simp only [inS]
  omega
theorem gainTo_some {v : Vial} {l : List Mk} {tu : Bool} : ∀ {k j : Nat}, j < k → (tilts v (l ++ [⟨(j : Int), tu⟩])).is = true → gainTo v l tu k ≠ none
  | k + 1, j, h, hj => by
    rw [gainTo_succ]
    by_cases hjk : j = k
    · subst hjk
      unfold gainStep
      rw [if_pos hj]; simp
    · have ih := gainTo_some (k := k) (by omega) hj
      unfold gainStep
      split
      · simp
      · exact ih
theorem gain_one {v : Vial} {l : List Rd} (hv : v.ok = true) (hr : rdsOk v l = true) (hi : (tilts v (l.map mid)).is = true) (h1 : gainOf v (l.map mid) false = none) (h2 : gainOf v (l.map mid) true = none) : False := by
  obtain ⟨z, hz⟩ := tilts_is.1 hi
  have h8 := rdsOk_len hr
  have hr' := hr
  simp only [rdsOk, Bool.and_eq_true, List.all_eq_true] at hr'
  obtain ⟨x, hx⟩ : ∃ x, x ∈ l := by cases l with | nil => simp at h8 | cons x _ => exact ⟨x, List.mem_cons_self⟩
  have hb := hr'.2 x hx
  simp only [rdOk, inB, Bool.and_eq_true, decide_eq_true_eq] at hb
  have hd := tilts_is.2 ⟨z, feas_dup hz (List.mem_map_of_mem (f := mid) hx)⟩
  have e : mid x = ⟨((x.left + x.right).toNat : Int), x.turned⟩ := by
    have : (((x.left + x.right).toNat : Nat) : Int) = x.left + x.right := Int.toNat_of_nonneg (by omega)
    rw [this]; rfl
  rw [e] at hd
  have := gainTo_some (k := (2 * v.marks + 1).toNat) (by omega) hd
  cases ht : x.turned <;> rw [ht] at this
  · exact this h1
  · exact this h2
end Go.Oc
namespace Go.Proofs.Ytgofljmnlfnlnaa
open Go.RowKit Go.Pm Go.Oc
set_option maxRecDepth 100000
set_option linter.unusedVariables false
set_option maxHeartbeats 4000000

theorem unMks_append : ∀ (l r : List Mk), unMks (l.flatMap Mk.cs ++ r.flatMap Mk.cs) = some (l ++ r) := fun l r => by rw [← List.flatMap_append]; exact unMks_eq _
theorem unMks_snoc (l : List Mk) (a : Int) (t : Bool) : unMks (l.flatMap Mk.cs ++ [.int .i64 a, .bool t]) = some (l ++ [⟨a, t⟩]) := unMks_append l [⟨a, t⟩]
attribute [go_sem] unMks_snoc
theorem rGain_c (v : Vial) (l : List Mk) (full tu : Bool) (hv : v.ok = true) (hm : mksOk l = true) (h1 : 1 ≤ l.length) (hl : l.length ≤ 8) : PCalls Try.prog 60 [v.t, .sl (l.flatMap Mk.cs) l.length full, .bool tu] (.int .i64 (gI (gainOf v l tu))) := by
  have hv' := Vial.ok_iff.1 hv
  refine pcalls_by Try.mixes spM2_ok (fn := Try.f60) Try.func60 rfl (by kernel_rfl) (by show 3 ≤ _; decide) ?_
  have w1 : IntKind.i64.wrap (2 * v.marks) = 2 * v.marks := wrap_in (by omega) (by omega)
  simp (decide := true) (maxSteps := 4000000) only [go_sem, Nat.reduceAdd, Nat.reduceSub, Nat.reduceMul, Nat.reduceDiv, Nat.reduceMod, Nat.reduceLT, Nat.reduceLeDiff, Nat.reduceEqDiff, Nat.reduceBEq, Nat.reduceBNe, Nat.reduceGT, Int.reduceAdd, Int.reduceSub, Int.reduceMul, Int.reduceNeg, Int.reduceLT, Int.reduceLE, Int.reduceEq, Int.reduceNe, Int.reduceBEq, Int.reduceBNe, Int.reduceToNat, Int.reduceGT, Int.reduceGE, ↓reduceIte, decide_true, decide_false, eq_self, Nat.mul_one, Nat.zero_mul, Nat.one_mul, Int.le_refl, Nat.le_refl, Int.cast_ofNat_Int, Try.f60, Vial.t, Vial.cs, w1]
  refine pwpC_loopU (A := { k : Nat // k ≤ (2 * v.marks + 1).toNat }) [1, 2, 3] (fun k => [(8, .t (.int .i64 k.1)), (7, .t (.int .i64 (gI (gainTo v l tu k.1))))]) (fun _ => []) (fun k => (2 * v.marks + 1).toNat - k.1) ⟨0, by omega⟩ (by decide) (fun _ => by rfl) ?_ fun Q1 hQ1 ⟨k, hk⟩ I1 hI1 => ?_
  · simp (decide := true) (maxSteps := 4000000) only [go_sem, Nat.reduceAdd, Nat.reduceSub, Nat.reduceMul, Nat.reduceDiv, Nat.reduceMod, Nat.reduceLT, Nat.reduceLeDiff, Nat.reduceEqDiff, Nat.reduceBEq, Nat.reduceBNe, Nat.reduceGT, Int.reduceAdd, Int.reduceSub, Int.reduceMul, Int.reduceNeg, Int.reduceLT, Int.reduceLE, Int.reduceEq, Int.reduceNe, Int.reduceBEq, Int.reduceBNe, Int.reduceToNat, Int.reduceGT, Int.reduceGE, ↓reduceIte, decide_true, decide_false, eq_self, Nat.mul_one, Nat.zero_mul, Nat.one_mul, Int.le_refl, Nat.le_refl, Int.cast_ofNat_Int]
    rfl
  · by_cases hlt : (k : Int) ≤ 2 * v.marks
    · have hc1 : IntKind.i64.wrap (k + 1) = ((k + 1 : Nat) : Int) := by rw [wrap_in (by omega) (by omega)]; omega
      have hm2 : mksOk (l ++ [⟨k, tu⟩]) = true := by
        unfold mksOk at hm ⊢
        rw [List.all_append, hm]
        simp [inB]; omega
      have hx1 : 1 ≤ (l ++ [(⟨k, tu⟩ : Mk)]).length := by simp
      have hx2 : (l ++ [(⟨k, tu⟩ : Mk)]).length ≤ 100 := by simp; omega
      have hx3 : (l ++ [(⟨k, tu⟩ : Mk)]).length = l.length + 1 := by simp
      have hx4 : l.length + 1 ≤ 100 := by omega
      have hx5 : 1 ≤ l.length + 1 := by omega
      have hfl : (List.flatMap Mk.cs l).length = l.length * 2 := flat_len Mk.cs (n := 2) (fun _ => rfl) l
      have htk : List.take (l.length * 2) (List.flatMap Mk.cs l) = List.flatMap Mk.cs l := List.take_of_length_le (by omega)
      have hroom : (l.length + 1) * 16 ≤ 140737488355328 := by omega
      have hroom2 : l.length * 16 ≤ 140737488355328 := by omega
      have hn0 : ¬ l.length = 0 := by omega
      have hb := tilts_bound hv hm2
      have hs := gainTo_succ v l tu k
      cases hj : (tilts v (l ++ [⟨k, tu⟩])).is with
      | false =>
        rw [gI_skip hj] at hs
        simp (decide := true) (maxSteps := 4000000) only [go_sem, Nat.reduceAdd, Nat.reduceSub, Nat.reduceMul, Nat.reduceDiv, Nat.reduceMod, Nat.reduceLT, Nat.reduceLeDiff, Nat.reduceEqDiff, Nat.reduceBEq, Nat.reduceBNe, Nat.reduceGT, Int.reduceAdd, Int.reduceSub, Int.reduceMul, Int.reduceNeg, Int.reduceLT, Int.reduceLE, Int.reduceEq, Int.reduceNe, Int.reduceBEq, Int.reduceBNe, Int.reduceToNat, Int.reduceGT, Int.reduceGE, ↓reduceIte, decide_true, decide_false, eq_self, Nat.mul_one, Nat.zero_mul, Nat.one_mul, Int.le_refl, Nat.le_refl, Int.cast_ofNat_Int, hlt, w1, hv, hm2, hx1, hx2, hx3, hx4, hx5, hfl, htk, hroom, hroom2, hn0, hj, allO_t, Vial.cs, TZ.t, Span.t, Span.cs]
        refine hI1 _ ⟨k + 1, by omega⟩ (by simp only; omega) ?_
        simp (decide := true) (maxSteps := 4000000) only [go_sem, Nat.reduceAdd, Nat.reduceSub, Nat.reduceMul, Nat.reduceDiv, Nat.reduceMod, Nat.reduceLT, Nat.reduceLeDiff, Nat.reduceEqDiff, Nat.reduceBEq, Nat.reduceBNe, Nat.reduceGT, Int.reduceAdd, Int.reduceSub, Int.reduceMul, Int.reduceNeg, Int.reduceLT, Int.reduceLE, Int.reduceEq, Int.reduceNe, Int.reduceBEq, Int.reduceBNe, Int.reduceToNat, Int.reduceGT, Int.reduceGE, ↓reduceIte, decide_true, decide_false, eq_self, Nat.mul_one, Nat.zero_mul, Nat.one_mul, Int.le_refl, Nat.le_refl, Int.cast_ofNat_Int, hc1, hs, Vial.cs]
      | true =>
        have hs2 := gI_step (g := gainTo v l tu k) hv hj
        rw [← hs] at hs2
        have w4 : IntKind.i64.wrap ((tilts v (l ++ [⟨k, tu⟩])).tilt.hi - (tilts v (l ++ [⟨k, tu⟩])).tilt.lo) = (tilts v (l ++ [⟨k, tu⟩])).tilt.hi - (tilts v (l ++ [⟨k, tu⟩])).tilt.lo := wrap_in (by omega) (by omega)
        simp (decide := true) (maxSteps := 4000000) only [go_sem, Nat.reduceAdd, Nat.reduceSub, Nat.reduceMul, Nat.reduceDiv, Nat.reduceMod, Nat.reduceLT, Nat.reduceLeDiff, Nat.reduceEqDiff, Nat.reduceBEq, Nat.reduceBNe, Nat.reduceGT, Int.reduceAdd, Int.reduceSub, Int.reduceMul, Int.reduceNeg, Int.reduceLT, Int.reduceLE, Int.reduceEq, Int.reduceNe, Int.reduceBEq, Int.reduceBNe, Int.reduceToNat, Int.reduceGT, Int.reduceGE, ↓reduceIte, decide_true, decide_false, eq_self, Nat.mul_one, Nat.zero_mul, Nat.one_mul, Int.le_refl, Nat.le_refl, Int.cast_ofNat_Int, hlt, w1, w4, hv, hm2, hx1, hx2, hx3, hx4, hx5, hfl, htk, hroom, hroom2, hn0, hj, allO_t, Vial.cs, TZ.t, Span.t, Span.cs]
        refine hI1 _ ⟨k + 1, by omega⟩ (by simp only; omega) ?_
        simp (decide := true) (maxSteps := 4000000) only [go_sem, Nat.reduceAdd, Nat.reduceSub, Nat.reduceMul, Nat.reduceDiv, Nat.reduceMod, Nat.reduceLT, Nat.reduceLeDiff, Nat.reduceEqDiff, Nat.reduceBEq, Nat.reduceBNe, Nat.reduceGT, Int.reduceAdd, Int.reduceSub, Int.reduceMul, Int.reduceNeg, Int.reduceLT, Int.reduceLE, Int.reduceEq, Int.reduceNe, Int.reduceBEq, Int.reduceBNe, Int.reduceToNat, Int.reduceGT, Int.reduceGE, ↓reduceIte, decide_true, decide_false, eq_self, Nat.mul_one, Nat.zero_mul, Nat.one_mul, Int.le_refl, Nat.le_refl, Int.cast_ofNat_Int, hc1, hs2, Vial.cs]
    · have hkl : k = (2 * v.marks + 1).toNat := by omega
      subst hkl
      simp (decide := true) (maxSteps := 4000000) only [go_sem, Nat.reduceAdd, Nat.reduceSub, Nat.reduceMul, Nat.reduceDiv, Nat.reduceMod, Nat.reduceLT, Nat.reduceLeDiff, Nat.reduceEqDiff, Nat.reduceBEq, Nat.reduceBNe, Nat.reduceGT, Int.reduceAdd, Int.reduceSub, Int.reduceMul, Int.reduceNeg, Int.reduceLT, Int.reduceLE, Int.reduceEq, Int.reduceNe, Int.reduceBEq, Int.reduceBNe, Int.reduceToNat, Int.reduceGT, Int.reduceGE, ↓reduceIte, decide_true, decide_false, eq_self, Nat.mul_one, Nat.zero_mul, Nat.one_mul, Int.le_refl, Nat.le_refl, Int.cast_ofNat_Int, hlt, w1]
      refine hQ1 _ _ ?_
      simp (decide := true) (maxSteps := 4000000) only [go_sem, Nat.reduceAdd, Nat.reduceSub, Nat.reduceMul, Nat.reduceDiv, Nat.reduceMod, Nat.reduceLT, Nat.reduceLeDiff, Nat.reduceEqDiff, Nat.reduceBEq, Nat.reduceBNe, Nat.reduceGT, Int.reduceAdd, Int.reduceSub, Int.reduceMul, Int.reduceNeg, Int.reduceLT, Int.reduceLE, Int.reduceEq, Int.reduceNe, Int.reduceBEq, Int.reduceBNe, Int.reduceToNat, Int.reduceGT, Int.reduceGE, ↓reduceIte, decide_true, decide_false, eq_self, Nat.mul_one, Nat.zero_mul, Nat.one_mul, Int.le_refl, Nat.le_refl, Int.cast_ofNat_Int]
      rfl
noncomputable def grGain : List TV → Option TV
  | [.agg [.int .i64 m, .int .i64 a, .int .i64 b, .int .i64 c, .int .i64 d, .int .i64 e, .int .i64 f, .int .i64 g], s, .bool tu] => match rowL unMks s with
    | some l => if 1 ≤ l.length ∧ Vial.ok ⟨m, a, b, c, d, e, f, g⟩ = true ∧ mksOk l = true ∧ l.length ≤ 8 then some (.int .i64 (gI (gainOf ⟨m, a, b, c, d, e, f, g⟩ l tu))) else none
    | none => none
  | _ => none
theorem grGain_ok : ∀ xs r, grGain xs = some r → PCalls Try.prog 60 xs r := by
  intro xs r h
  unfold grGain at h
  split at h
  · split at h
    · rename_i l hl
      have hl := rowL_some (un := unMks) rfl (@unMks_some) hl
      split at h
      · rename_i hc; cases h; exact (by obtain ⟨h0, h1, h2, h3⟩ := hc; obtain ⟨full, rfl⟩ := hl.ne h0; exact rGain_c ⟨_, _, _, _, _, _, _, _⟩ _ _ _ h1 h2 h0 h3)
      · cases h
    · cases h
  · cases h
attribute [go_sem] grGain
noncomputable def spN1 : Pm.Spec := spM2.one 60 grGain
@[go_sem] theorem spN1_p (f : FuncId) (xs : List TV) : spN1.p f xs = Pm.Spec.p (spM2.one 60 grGain) f xs := rfl
@[go_sem] theorem spN1_h (f : FuncId) (ps : List PV) (hl : List PO) : spN1.h f ps hl = Pm.Spec.h (spM2.one 60 grGain) f ps hl := rfl
@[go_sem] theorem spN1_fz (f : FuncId) : spN1.fz f = Pm.Spec.fz (spM2.one 60 grGain) f := rfl
@[go_sem] theorem spN1_fr (f : FuncId) : spN1.fr f = Pm.Spec.fr (spM2.one 60 grGain) f := rfl
@[go_sem] theorem spN1_mu (t : TypeId) : spN1.mu t = Pm.Spec.mu (spM2.one 60 grGain) t := rfl
theorem spN1_ok : SpecOk Try.prog spN1 := Spec.one_ok grGain_ok spM2_ok
theorem rNext_c (v : Vial) {l : List Rd} {s : TV} (hs : IsRow Rd.cs s l) : PCalls Try.prog 27 [v.t, s] (.tup [.bool (nextP v l).1, .int .i64 (nextP v l).2.1, .int .i64 (nextP v l).2.2]) := by
  refine pcalls_by Try.mixes spN1_ok (fn := Try.f27) Try.func27 rfl (by kernel_rfl) (by show 2 ≤ _; decide) ?_
  unfold nextP
  by_cases hk : asked v l = 0
  · obtain ⟨hv, hr⟩ := asked_zero hk
    have hm := mksOk_mid hv hr
    have h8 := rdsOk_len hr
    have h100 : l.length ≤ 100 := by omega
    obtain ⟨full, rfl⟩ := hs.ne h8.1
    by_cases h88 : l.length = 8
    · have h8e : (((8 : Nat) : Int) == 8) = true := rfl
      simp (decide := true) (maxSteps := 4000000) only [go_sem, Nat.reduceAdd, Nat.reduceSub, Nat.reduceMul, Nat.reduceDiv, Nat.reduceMod, Nat.reduceLT, Nat.reduceLeDiff, Nat.reduceEqDiff, Nat.reduceBEq, Nat.reduceBNe, Nat.reduceGT, Int.reduceAdd, Int.reduceSub, Int.reduceMul, Int.reduceNeg, Int.reduceLT, Int.reduceLE, Int.reduceEq, Int.reduceNe, Int.reduceBEq, Int.reduceBNe, Int.reduceToNat, Int.reduceGT, Int.reduceGE, ↓reduceIte, decide_true, decide_false, eq_self, Nat.mul_one, Nat.zero_mul, Nat.one_mul, Int.le_refl, Nat.le_refl, Int.cast_ofNat_Int, Try.f27, Vial.t, Vial.cs, hk, h88, h8e]
    · have h88b : ((l.length : Int) == 8) = false := beq_int_f (by omega)
      cases hi : (tilts v (l.map mid)).is with
      | false => simp (decide := true) (maxSteps := 4000000) only [go_sem, Nat.reduceAdd, Nat.reduceSub, Nat.reduceMul, Nat.reduceDiv, Nat.reduceMod, Nat.reduceLT, Nat.reduceLeDiff, Nat.reduceEqDiff, Nat.reduceBEq, Nat.reduceBNe, Nat.reduceGT, Int.reduceAdd, Int.reduceSub, Int.reduceMul, Int.reduceNeg, Int.reduceLT, Int.reduceLE, Int.reduceEq, Int.reduceNe, Int.reduceBEq, Int.reduceBNe, Int.reduceToNat, Int.reduceGT, Int.reduceGE, ↓reduceIte, decide_true, decide_false, eq_self, Nat.mul_one, Nat.zero_mul, Nat.one_mul, Int.le_refl, Nat.le_refl, Int.cast_ofNat_Int, Try.f27, Vial.t, Vial.cs, hk, h88, h88b, hv, h8.1, h8.2, h100, hm, List.length_map, TZ.t, Span.t, Span.cs, hi]
      | true =>
        cases hd : gainOf v (l.map mid) false with
        | none =>
          cases ht : gainOf v (l.map mid) true with
          | none => exact (gain_one hv hr hi hd ht).elim
          | some t => simp (decide := true) (maxSteps := 4000000) only [go_sem, Nat.reduceAdd, Nat.reduceSub, Nat.reduceMul, Nat.reduceDiv, Nat.reduceMod, Nat.reduceLT, Nat.reduceLeDiff, Nat.reduceEqDiff, Nat.reduceBEq, Nat.reduceBNe, Nat.reduceGT, Int.reduceAdd, Int.reduceSub, Int.reduceMul, Int.reduceNeg, Int.reduceLT, Int.reduceLE, Int.reduceEq, Int.reduceNe, Int.reduceBEq, Int.reduceBNe, Int.reduceToNat, Int.reduceGT, Int.reduceGE, ↓reduceIte, decide_true, decide_false, eq_self, Nat.mul_one, Nat.zero_mul, Nat.one_mul, Int.le_refl, Nat.le_refl, Int.cast_ofNat_Int, Try.f27, Vial.t, Vial.cs, hk, h88, h88b, hv, h8.1, h8.2, h100, hm, List.length_map, TZ.t, Span.t, Span.cs, hi, hd, ht, gI]
        | some d =>
          have hdp : ¬ d < 0 := by have := gainTo_pos hv (show gainTo v (l.map mid) false _ = some d from hd); omega
          cases ht : gainOf v (l.map mid) true with
          | none => simp (decide := true) (maxSteps := 4000000) only [go_sem, Nat.reduceAdd, Nat.reduceSub, Nat.reduceMul, Nat.reduceDiv, Nat.reduceMod, Nat.reduceLT, Nat.reduceLeDiff, Nat.reduceEqDiff, Nat.reduceBEq, Nat.reduceBNe, Nat.reduceGT, Int.reduceAdd, Int.reduceSub, Int.reduceMul, Int.reduceNeg, Int.reduceLT, Int.reduceLE, Int.reduceEq, Int.reduceNe, Int.reduceBEq, Int.reduceBNe, Int.reduceToNat, Int.reduceGT, Int.reduceGE, ↓reduceIte, decide_true, decide_false, eq_self, Nat.mul_one, Nat.zero_mul, Nat.one_mul, Int.le_refl, Nat.le_refl, Int.cast_ofNat_Int, Try.f27, Vial.t, Vial.cs, hk, h88, h88b, hv, h8.1, h8.2, h100, hm, List.length_map, TZ.t, Span.t, Span.cs, hi, hd, ht, gI, hdp]
          | some t =>
            have htp : t ≥ 0 := gainTo_pos hv (show gainTo v (l.map mid) true _ = some t from ht)
            by_cases htd : t < d <;> simp (decide := true) (maxSteps := 4000000) only [go_sem, Nat.reduceAdd, Nat.reduceSub, Nat.reduceMul, Nat.reduceDiv, Nat.reduceMod, Nat.reduceLT, Nat.reduceLeDiff, Nat.reduceEqDiff, Nat.reduceBEq, Nat.reduceBNe, Nat.reduceGT, Int.reduceAdd, Int.reduceSub, Int.reduceMul, Int.reduceNeg, Int.reduceLT, Int.reduceLE, Int.reduceEq, Int.reduceNe, Int.reduceBEq, Int.reduceBNe, Int.reduceToNat, Int.reduceGT, Int.reduceGE, ↓reduceIte, decide_true, decide_false, eq_self, Nat.mul_one, Nat.zero_mul, Nat.one_mul, Int.le_refl, Nat.le_refl, Int.cast_ofNat_Int, Try.f27, Vial.t, Vial.cs, hk, h88, h88b, hv, h8.1, h8.2, h100, hm, List.length_map, TZ.t, Span.t, Span.cs, hi, hd, ht, gI, hdp, htp, htd]
  · have hk' : (asked v l != 0) = true := by simpa using hk
    rcases hs with ⟨rfl, rfl⟩ | ⟨full, rfl⟩ <;> simp (decide := true) (maxSteps := 4000000) only [go_sem, Nat.reduceAdd, Nat.reduceSub, Nat.reduceMul, Nat.reduceDiv, Nat.reduceMod, Nat.reduceLT, Nat.reduceLeDiff, Nat.reduceEqDiff, Nat.reduceBEq, Nat.reduceBNe, Nat.reduceGT, Int.reduceAdd, Int.reduceSub, Int.reduceMul, Int.reduceNeg, Int.reduceLT, Int.reduceLE, Int.reduceEq, Int.reduceNe, Int.reduceBEq, Int.reduceBNe, Int.reduceToNat, Int.reduceGT, Int.reduceGE, ↓reduceIte, decide_true, decide_false, eq_self, Nat.mul_one, Nat.zero_mul, Nat.one_mul, Int.le_refl, Nat.le_refl, Int.cast_ofNat_Int, Try.f27, Vial.t, Vial.cs, unRds, hk, hk']
noncomputable def grNext : List TV → Option TV
  | [.agg [.int .i64 m, .int .i64 a, .int .i64 b, .int .i64 c, .int .i64 d, .int .i64 e, .int .i64 f, .int .i64 g], s] => match rowL unRds s with
    | some l => if True then some (.tup [.bool (nextP ⟨m, a, b, c, d, e, f, g⟩ l).1, .int .i64 (nextP ⟨m, a, b, c, d, e, f, g⟩ l).2.1, .int .i64 (nextP ⟨m, a, b, c, d, e, f, g⟩ l).2.2]) else none
    | none => none
  | _ => none
theorem grNext_ok : ∀ xs r, grNext xs = some r → PCalls Try.prog 27 xs r := by
  intro xs r h
  unfold grNext at h
  split at h
  · split at h
    · rename_i l hl
      have hl := rowL_some (un := unRds) rfl (@unRds_some) hl
      split at h
      · rename_i hc; cases h; exact rNext_c ⟨_, _, _, _, _, _, _, _⟩ hl
      · cases h
    · cases h
  · cases h
attribute [go_sem] grNext
noncomputable def spN2 : Pm.Spec := spK1.one 27 grNext
@[go_sem] theorem spN2_p (f : FuncId) (xs : List TV) : spN2.p f xs = Pm.Spec.p (spK1.one 27 grNext) f xs := rfl
@[go_sem] theorem spN2_h (f : FuncId) (ps : List PV) (hl : List PO) : spN2.h f ps hl = Pm.Spec.h (spK1.one 27 grNext) f ps hl := rfl
@[go_sem] theorem spN2_fz (f : FuncId) : spN2.fz f = Pm.Spec.fz (spK1.one 27 grNext) f := rfl
@[go_sem] theorem spN2_fr (f : FuncId) : spN2.fr f = Pm.Spec.fr (spK1.one 27 grNext) f := rfl
@[go_sem] theorem spN2_mu (t : TypeId) : spN2.mu t = Pm.Spec.mu (spK1.one 27 grNext) t := rfl
theorem spN2_ok : SpecOk Try.prog spN2 := Spec.one_ok grNext_ok spK1_ok
theorem LevelNext_c (v : Vial) {l : List Rd} {s : TV} (hs : IsRow Rd.cs s l) (hl : l.length ≤ 5864062014806) : PCalls Try.prog 5 [v.t, s] (.bool true) := by
  refine pcalls_by Try.mixes spN2_ok (fn := Try.f5) Try.func5 rfl (by kernel_rfl) (by show 2 ≤ _; decide) ?_
  rcases hs with ⟨rfl, rfl⟩ | ⟨full, rfl⟩ <;> simp (decide := true) (maxSteps := 4000000) only [go_sem, Nat.reduceAdd, Nat.reduceSub, Nat.reduceMul, Nat.reduceDiv, Nat.reduceMod, Nat.reduceLT, Nat.reduceLeDiff, Nat.reduceEqDiff, Nat.reduceBEq, Nat.reduceBNe, Nat.reduceGT, Int.reduceAdd, Int.reduceSub, Int.reduceMul, Int.reduceNeg, Int.reduceLT, Int.reduceLE, Int.reduceEq, Int.reduceNe, Int.reduceBEq, Int.reduceBNe, Int.reduceToNat, Int.reduceGT, Int.reduceGE, ↓reduceIte, decide_true, decide_false, eq_self, Nat.mul_one, Nat.zero_mul, Nat.one_mul, Int.le_refl, Nat.le_refl, Int.cast_ofNat_Int, Try.f5, Vial.t, Vial.cs, unRds, hl, beq_self_eq_true, bne_self_eq_false, List.length_nil]
end Go.Proofs.Ytgofljmnlfnlnaa

/- Part Mg. -/
namespace Go.Proofs.Ytgofljmnlfnlnaa
open Go.RowKit Go.Pm Go.Oc
set_option maxRecDepth 100000
set_option linter.unusedVariables false
set_option maxHeartbeats 4000000

theorem rChoose_c {st : List Vial} {pr : List Int} {s t : TV} (hs : IsRow Vial.cs s st) (ht : IsRow ic t pr) (rg fl : Int) : PCalls Try.prog 31 [s, t, .agg [.int .i64 rg, .int .i64 fl]] (.tup [.int .i64 (chooseP st pr rg fl).1, .int .i64 (chooseP st pr rg fl).2]) := by
  refine pcalls_by Try.mixes spM2_ok (fn := Try.f31) Try.func31 rfl (by kernel_rfl) (by show 3 ≤ _; decide) ?_
  cases hb : okBase st.length pr.length rg fl with
  | false =>
    have ho : ∀ k, okTo st pr rg fl k = false := fun k => by unfold okTo; rw [hb]; rfl
    have hr : chooseP st pr rg fl = (0, 34) := by unfold chooseP; rw [ho]; rfl
    rw [hr]
    unfold okBase at hb
    rcases hs with ⟨rfl, rfl⟩ | ⟨full, rfl⟩ <;> rcases ht with ⟨rfl, rfl⟩ | ⟨full', rfl⟩
    all_goals
      simp (decide := true) (maxSteps := 4000000) only [go_sem, Nat.reduceAdd, Nat.reduceSub, Nat.reduceMul, Nat.reduceDiv, Nat.reduceMod, Nat.reduceLT, Nat.reduceLeDiff, Nat.reduceEqDiff, Nat.reduceBEq, Nat.reduceBNe, Nat.reduceGT, Int.reduceAdd, Int.reduceSub, Int.reduceMul, Int.reduceNeg, Int.reduceLT, Int.reduceLE, Int.reduceEq, Int.reduceNe, Int.reduceBEq, Int.reduceBNe, Int.reduceToNat, Int.reduceGT, Int.reduceGE, ↓reduceIte, decide_true, decide_false, eq_self, Nat.mul_one, Nat.zero_mul, Nat.one_mul, Int.le_refl, Nat.le_refl, Int.cast_ofNat_Int, Try.f31]
      refine pwpC_loopU (A := Unit) [0] (fun _ => [(9, .t (.int .i64 0)), (8, .t (.bool false))]) (fun _ => []) (fun _ => 0) () (by decide) (fun _ => by rfl) ?_ fun Q1 hQ1 k I1 hI1 => ?_
      · simp (decide := true) (maxSteps := 4000000) only [go_sem, Nat.reduceAdd, Nat.reduceSub, Nat.reduceMul, Nat.reduceDiv, Nat.reduceMod, Nat.reduceLT, Nat.reduceLeDiff, Nat.reduceEqDiff, Nat.reduceBEq, Nat.reduceBNe, Nat.reduceGT, Int.reduceAdd, Int.reduceSub, Int.reduceMul, Int.reduceNeg, Int.reduceLT, Int.reduceLE, Int.reduceEq, Int.reduceNe, Int.reduceBEq, Int.reduceBNe, Int.reduceToNat, Int.reduceGT, Int.reduceGE, ↓reduceIte, decide_true, decide_false, eq_self, Nat.mul_one, Nat.zero_mul, Nat.one_mul, Int.le_refl, Nat.le_refl, Int.cast_ofNat_Int, inB]
        try simpa [inB] using hb
      · simp (decide := true) (maxSteps := 4000000) only [go_sem, Nat.reduceAdd, Nat.reduceSub, Nat.reduceMul, Nat.reduceDiv, Nat.reduceMod, Nat.reduceLT, Nat.reduceLeDiff, Nat.reduceEqDiff, Nat.reduceBEq, Nat.reduceBNe, Nat.reduceGT, Int.reduceAdd, Int.reduceSub, Int.reduceMul, Int.reduceNeg, Int.reduceLT, Int.reduceLE, Int.reduceEq, Int.reduceNe, Int.reduceBEq, Int.reduceBNe, Int.reduceToNat, Int.reduceGT, Int.reduceGE, ↓reduceIte, decide_true, decide_false, eq_self, Nat.mul_one, Nat.zero_mul, Nat.one_mul, Int.le_refl, Nat.le_refl, Int.cast_ofNat_Int]
        first | done | (refine hQ1 _ _ ?_; simp (decide := true) (maxSteps := 4000000) only [go_sem, Nat.reduceAdd, Nat.reduceSub, Nat.reduceMul, Nat.reduceDiv, Nat.reduceMod, Nat.reduceLT, Nat.reduceLeDiff, Nat.reduceEqDiff, Nat.reduceBEq, Nat.reduceBNe, Nat.reduceGT, Int.reduceAdd, Int.reduceSub, Int.reduceMul, Int.reduceNeg, Int.reduceLT, Int.reduceLE, Int.reduceEq, Int.reduceNe, Int.reduceBEq, Int.reduceBNe, Int.reduceToNat, Int.reduceGT, Int.reduceGE, ↓reduceIte, decide_true, decide_false, eq_self, Nat.mul_one, Nat.zero_mul, Nat.one_mul, Int.le_refl, Nat.le_refl, Int.cast_ofNat_Int])
  | true =>
    have h10 : 1 ≤ st.length ∧ st.length ≤ 10 ∧ pr.length = st.length := by
      simp only [okBase, inB, Bool.and_eq_true, decide_eq_true_eq, beq_iff_eq] at hb; omega
    obtain ⟨full, rfl⟩ := hs.ne h10.1
    obtain ⟨full', rfl⟩ := ht.ne (by omega)
    have hb' := hb
    unfold okBase at hb'
    rw [h10.2.2] at hb' ⊢
    simp (decide := true) (maxSteps := 4000000) only [go_sem, Nat.reduceAdd, Nat.reduceSub, Nat.reduceMul, Nat.reduceDiv, Nat.reduceMod, Nat.reduceLT, Nat.reduceLeDiff, Nat.reduceEqDiff, Nat.reduceBEq, Nat.reduceBNe, Nat.reduceGT, Int.reduceAdd, Int.reduceSub, Int.reduceMul, Int.reduceNeg, Int.reduceLT, Int.reduceLE, Int.reduceEq, Int.reduceNe, Int.reduceBEq, Int.reduceBNe, Int.reduceToNat, Int.reduceGT, Int.reduceGE, ↓reduceIte, decide_true, decide_false, eq_self, Nat.mul_one, Nat.zero_mul, Nat.one_mul, Int.le_refl, Nat.le_refl, Int.cast_ofNat_Int, Try.f31]
    refine pwpC_loopU (A := { k : Nat // k ≤ st.length }) [0, 1, 5] (fun k => [(9, .t (.int .i64 k.1)), (8, .t (.bool (okTo st pr rg fl k.1)))]) (fun _ => []) (fun k => st.length - k.1) ⟨0, by omega⟩ (by decide) (fun _ => by rfl) ?_ fun Q1 hQ1 ⟨k, hk⟩ I1 hI1 => ?_
    · simp (decide := true) (maxSteps := 4000000) only [go_sem, Nat.reduceAdd, Nat.reduceSub, Nat.reduceMul, Nat.reduceDiv, Nat.reduceMod, Nat.reduceLT, Nat.reduceLeDiff, Nat.reduceEqDiff, Nat.reduceBEq, Nat.reduceBNe, Nat.reduceGT, Int.reduceAdd, Int.reduceSub, Int.reduceMul, Int.reduceNeg, Int.reduceLT, Int.reduceLE, Int.reduceEq, Int.reduceNe, Int.reduceBEq, Int.reduceBNe, Int.reduceToNat, Int.reduceGT, Int.reduceGE, ↓reduceIte, decide_true, decide_false, eq_self, Nat.mul_one, Nat.zero_mul, Nat.one_mul, Int.le_refl, Nat.le_refl, Int.cast_ofNat_Int]
      unfold okTo okBase
      rw [h10.2.2]; simp
    · cases hok : okTo st pr rg fl k with
      | false =>
        have e := okTo_mono hok (st.length - k)
        rw [show k + (st.length - k) = st.length by omega] at e
        have hr : chooseP st pr rg fl = (0, 34) := by unfold chooseP; rw [e]; rfl
        simp (decide := true) (maxSteps := 4000000) only [go_sem, Nat.reduceAdd, Nat.reduceSub, Nat.reduceMul, Nat.reduceDiv, Nat.reduceMod, Nat.reduceLT, Nat.reduceLeDiff, Nat.reduceEqDiff, Nat.reduceBEq, Nat.reduceBNe, Nat.reduceGT, Int.reduceAdd, Int.reduceSub, Int.reduceMul, Int.reduceNeg, Int.reduceLT, Int.reduceLE, Int.reduceEq, Int.reduceNe, Int.reduceBEq, Int.reduceBNe, Int.reduceToNat, Int.reduceGT, Int.reduceGE, ↓reduceIte, decide_true, decide_false, eq_self, Nat.mul_one, Nat.zero_mul, Nat.one_mul, Int.le_refl, Nat.le_refl, Int.cast_ofNat_Int, hok]
        refine hQ1 _ _ ?_
        simp (decide := true) (maxSteps := 4000000) only [go_sem, Nat.reduceAdd, Nat.reduceSub, Nat.reduceMul, Nat.reduceDiv, Nat.reduceMod, Nat.reduceLT, Nat.reduceLeDiff, Nat.reduceEqDiff, Nat.reduceBEq, Nat.reduceBNe, Nat.reduceGT, Int.reduceAdd, Int.reduceSub, Int.reduceMul, Int.reduceNeg, Int.reduceLT, Int.reduceLE, Int.reduceEq, Int.reduceNe, Int.reduceBEq, Int.reduceBNe, Int.reduceToNat, Int.reduceGT, Int.reduceGE, ↓reduceIte, decide_true, decide_false, eq_self, Nat.mul_one, Nat.zero_mul, Nat.one_mul, Int.le_refl, Nat.le_refl, Int.cast_ofNat_Int, hr]
      | true =>
        by_cases hlt : (k : Int) < st.length
        · obtain ⟨x, hx⟩ := get_lt hlt
          obtain ⟨y, hy⟩ := get_lt (l := pr) (k := k) (by omega)
          have hd := flat_at Vial.cs (n := 8) (fun _ => rfl) hx
          have hdy := flat_at ic (n := 1) (fun _ => rfl) hy
          rw [Nat.mul_one] at hdy
          have hc1 : IntKind.i64.wrap (k + 1) = ((k + 1 : Nat) : Int) := by rw [wrap_in (by omega) (by omega)]; omega
          have hs := okTo_succ st pr rg fl k
          unfold okAt at hs
          rw [hx, hy, hok] at hs
          cases hv : x.ok with
          | false =>
            simp (decide := true) (maxSteps := 4000000) only [go_sem, Nat.reduceAdd, Nat.reduceSub, Nat.reduceMul, Nat.reduceDiv, Nat.reduceMod, Nat.reduceLT, Nat.reduceLeDiff, Nat.reduceEqDiff, Nat.reduceBEq, Nat.reduceBNe, Nat.reduceGT, Int.reduceAdd, Int.reduceSub, Int.reduceMul, Int.reduceNeg, Int.reduceLT, Int.reduceLE, Int.reduceEq, Int.reduceNe, Int.reduceBEq, Int.reduceBNe, Int.reduceToNat, Int.reduceGT, Int.reduceGE, ↓reduceIte, decide_true, decide_false, eq_self, Nat.mul_one, Nat.zero_mul, Nat.one_mul, Int.le_refl, Nat.le_refl, Int.cast_ofNat_Int, hlt, hd, hdy, Vial.cs, ic, hok, hv]
            refine hI1 _ ⟨k + 1, by omega⟩ (by simp only; omega) ?_
            simp (decide := true) (maxSteps := 4000000) only [go_sem, Nat.reduceAdd, Nat.reduceSub, Nat.reduceMul, Nat.reduceDiv, Nat.reduceMod, Nat.reduceLT, Nat.reduceLeDiff, Nat.reduceEqDiff, Nat.reduceBEq, Nat.reduceBNe, Nat.reduceGT, Int.reduceAdd, Int.reduceSub, Int.reduceMul, Int.reduceNeg, Int.reduceLT, Int.reduceLE, Int.reduceEq, Int.reduceNe, Int.reduceBEq, Int.reduceBNe, Int.reduceToNat, Int.reduceGT, Int.reduceGE, ↓reduceIte, decide_true, decide_false, eq_self, Nat.mul_one, Nat.zero_mul, Nat.one_mul, Int.le_refl, Nat.le_refl, Int.cast_ofNat_Int, hc1, hs, hv]
          | true =>
            simp (decide := true) (maxSteps := 4000000) only [go_sem, Nat.reduceAdd, Nat.reduceSub, Nat.reduceMul, Nat.reduceDiv, Nat.reduceMod, Nat.reduceLT, Nat.reduceLeDiff, Nat.reduceEqDiff, Nat.reduceBEq, Nat.reduceBNe, Nat.reduceGT, Int.reduceAdd, Int.reduceSub, Int.reduceMul, Int.reduceNeg, Int.reduceLT, Int.reduceLE, Int.reduceEq, Int.reduceNe, Int.reduceBEq, Int.reduceBNe, Int.reduceToNat, Int.reduceGT, Int.reduceGE, ↓reduceIte, decide_true, decide_false, eq_self, Nat.mul_one, Nat.zero_mul, Nat.one_mul, Int.le_refl, Nat.le_refl, Int.cast_ofNat_Int, hlt, hd, hdy, Vial.cs, ic, hok, hv]
            refine hI1 _ ⟨k + 1, by omega⟩ (by simp only; omega) ?_
            simp (decide := true) (maxSteps := 4000000) only [go_sem, Nat.reduceAdd, Nat.reduceSub, Nat.reduceMul, Nat.reduceDiv, Nat.reduceMod, Nat.reduceLT, Nat.reduceLeDiff, Nat.reduceEqDiff, Nat.reduceBEq, Nat.reduceBNe, Nat.reduceGT, Int.reduceAdd, Int.reduceSub, Int.reduceMul, Int.reduceNeg, Int.reduceLT, Int.reduceLE, Int.reduceEq, Int.reduceNe, Int.reduceBEq, Int.reduceBNe, Int.reduceToNat, Int.reduceGT, Int.reduceGE, ↓reduceIte, decide_true, decide_false, eq_self, Nat.mul_one, Nat.zero_mul, Nat.one_mul, Int.le_refl, Nat.le_refl, Int.cast_ofNat_Int, hc1, hs, hv]
        · have hkl : k = st.length := by omega
          subst hkl
          simp (decide := true) (maxSteps := 4000000) only [go_sem, Nat.reduceAdd, Nat.reduceSub, Nat.reduceMul, Nat.reduceDiv, Nat.reduceMod, Nat.reduceLT, Nat.reduceLeDiff, Nat.reduceEqDiff, Nat.reduceBEq, Nat.reduceBNe, Nat.reduceGT, Int.reduceAdd, Int.reduceSub, Int.reduceMul, Int.reduceNeg, Int.reduceLT, Int.reduceLE, Int.reduceEq, Int.reduceNe, Int.reduceBEq, Int.reduceBNe, Int.reduceToNat, Int.reduceGT, Int.reduceGE, ↓reduceIte, decide_true, decide_false, eq_self, Nat.mul_one, Nat.zero_mul, Nat.one_mul, Int.le_refl, Nat.le_refl, Int.cast_ofNat_Int, hlt, hok]
          refine hQ1 _ _ ?_
          simp (decide := true) (maxSteps := 4000000) only [go_sem, Nat.reduceAdd, Nat.reduceSub, Nat.reduceMul, Nat.reduceDiv, Nat.reduceMod, Nat.reduceLT, Nat.reduceLeDiff, Nat.reduceEqDiff, Nat.reduceBEq, Nat.reduceBNe, Nat.reduceGT, Int.reduceAdd, Int.reduceSub, Int.reduceMul, Int.reduceNeg, Int.reduceLT, Int.reduceLE, Int.reduceEq, Int.reduceNe, Int.reduceBEq, Int.reduceBNe, Int.reduceToNat, Int.reduceGT, Int.reduceGE, ↓reduceIte, decide_true, decide_false, eq_self, Nat.mul_one, Nat.zero_mul, Nat.one_mul, Int.le_refl, Nat.le_refl, Int.cast_ofNat_Int, hok]
          refine pwpC_loopU (A := { k : Nat // k ≤ st.length }) [0, 1, 5] (fun k => [(11, .t (.int .i64 k.1)), (10, .t (.int .i64 (bI st pr rg fl k.1)))]) (fun k => []) (fun k => st.length - k.1) ⟨0, by omega⟩ (by decide) (fun _ => by rfl) ?_ fun Q2 hQ2 ⟨k, hk⟩ I2 hI2 => ?_
          · simp (decide := true) (maxSteps := 4000000) only [go_sem, Nat.reduceAdd, Nat.reduceSub, Nat.reduceMul, Nat.reduceDiv, Nat.reduceMod, Nat.reduceLT, Nat.reduceLeDiff, Nat.reduceEqDiff, Nat.reduceBEq, Nat.reduceBNe, Nat.reduceGT, Int.reduceAdd, Int.reduceSub, Int.reduceMul, Int.reduceNeg, Int.reduceLT, Int.reduceLE, Int.reduceEq, Int.reduceNe, Int.reduceBEq, Int.reduceBNe, Int.reduceToNat, Int.reduceGT, Int.reduceGE, ↓reduceIte, decide_true, decide_false, eq_self, Nat.mul_one, Nat.zero_mul, Nat.one_mul, Int.le_refl, Nat.le_refl, Int.cast_ofNat_Int]
            rfl
          · by_cases hlt : (k : Int) < st.length
            · obtain ⟨x, hx⟩ := get_lt hlt
              obtain ⟨y, hy⟩ := get_lt (l := pr) (k := k) (by omega)
              have hd := flat_at Vial.cs (n := 8) (fun _ => rfl) hx
              have hdy := flat_at ic (n := 1) (fun _ => rfl) hy
              rw [Nat.mul_one] at hdy
              have hv := okTo_ok hok (by omega) hx
              have hc1 : IntKind.i64.wrap (k + 1) = ((k + 1 : Nat) : Int) := by rw [wrap_in (by omega) (by omega)]; omega
              cases hdo : doesP x rg fl with
              | false =>
                have ho : offTo st pr rg fl (k + 1) = offTo st pr rg fl k := offTo_f (by unfold offAt; rw [hx, hy]; simp [hdo])
                have hbi : bI st pr rg fl (k + 1) = bI st pr rg fl k := by unfold bI; rw [ho]
                cases hbo : bestOf (offTo st pr rg fl k) with
                | none =>
                  have hbn : bI st pr rg fl k = -1 := by unfold bI; rw [hbo]
                  simp (decide := true) (maxSteps := 4000000) only [go_sem, Nat.reduceAdd, Nat.reduceSub, Nat.reduceMul, Nat.reduceDiv, Nat.reduceMod, Nat.reduceLT, Nat.reduceLeDiff, Nat.reduceEqDiff, Nat.reduceBEq, Nat.reduceBNe, Nat.reduceGT, Int.reduceAdd, Int.reduceSub, Int.reduceMul, Int.reduceNeg, Int.reduceLT, Int.reduceLE, Int.reduceEq, Int.reduceNe, Int.reduceBEq, Int.reduceBNe, Int.reduceToNat, Int.reduceGT, Int.reduceGE, ↓reduceIte, decide_true, decide_false, eq_self, Nat.mul_one, Nat.zero_mul, Nat.one_mul, Int.le_refl, Nat.le_refl, Int.cast_ofNat_Int, hlt, hd, hdy, Vial.cs, ic, hv, hdo, hbn]
                  refine hI2 _ ⟨k + 1, by omega⟩ (by simp only; omega) ?_
                  simp (decide := true) (maxSteps := 4000000) only [go_sem, Nat.reduceAdd, Nat.reduceSub, Nat.reduceMul, Nat.reduceDiv, Nat.reduceMod, Nat.reduceLT, Nat.reduceLeDiff, Nat.reduceEqDiff, Nat.reduceBEq, Nat.reduceBNe, Nat.reduceGT, Int.reduceAdd, Int.reduceSub, Int.reduceMul, Int.reduceNeg, Int.reduceLT, Int.reduceLE, Int.reduceEq, Int.reduceNe, Int.reduceBEq, Int.reduceBNe, Int.reduceToNat, Int.reduceGT, Int.reduceGE, ↓reduceIte, decide_true, decide_false, eq_self, Nat.mul_one, Nat.zero_mul, Nat.one_mul, Int.le_refl, Nat.le_refl, Int.cast_ofNat_Int, hc1, hbi, hbn]
                | some b =>
                  obtain ⟨i, hi, hbx, hp, _⟩ := offTo_mem (bestOf_mem _ _ hbo)
                  have hbn : bI st pr rg fl k = i := by unfold bI; rw [hbo]; exact hbx
                  have hi0 : ¬ (i : Int) < 0 := by omega
                  have hil : (i : Int) < st.length := by omega
                  have hdi := flat_at ic (n := 1) (fun _ => rfl) hp
                  rw [Nat.mul_one] at hdi
                  simp (decide := true) (maxSteps := 4000000) only [go_sem, Nat.reduceAdd, Nat.reduceSub, Nat.reduceMul, Nat.reduceDiv, Nat.reduceMod, Nat.reduceLT, Nat.reduceLeDiff, Nat.reduceEqDiff, Nat.reduceBEq, Nat.reduceBNe, Nat.reduceGT, Int.reduceAdd, Int.reduceSub, Int.reduceMul, Int.reduceNeg, Int.reduceLT, Int.reduceLE, Int.reduceEq, Int.reduceNe, Int.reduceBEq, Int.reduceBNe, Int.reduceToNat, Int.reduceGT, Int.reduceGE, ↓reduceIte, decide_true, decide_false, eq_self, Nat.mul_one, Nat.zero_mul, Nat.one_mul, Int.le_refl, Nat.le_refl, Int.cast_ofNat_Int, hlt, hd, hdy, Vial.cs, ic, hv, hdo, hbn, hi0, hil, hdi]
                  refine hI2 _ ⟨k + 1, by omega⟩ (by simp only; omega) ?_
                  simp (decide := true) (maxSteps := 4000000) only [go_sem, Nat.reduceAdd, Nat.reduceSub, Nat.reduceMul, Nat.reduceDiv, Nat.reduceMod, Nat.reduceLT, Nat.reduceLeDiff, Nat.reduceEqDiff, Nat.reduceBEq, Nat.reduceBNe, Nat.reduceGT, Int.reduceAdd, Int.reduceSub, Int.reduceMul, Int.reduceNeg, Int.reduceLT, Int.reduceLE, Int.reduceEq, Int.reduceNe, Int.reduceBEq, Int.reduceBNe, Int.reduceToNat, Int.reduceGT, Int.reduceGE, ↓reduceIte, decide_true, decide_false, eq_self, Nat.mul_one, Nat.zero_mul, Nat.one_mul, Int.le_refl, Nat.le_refl, Int.cast_ofNat_Int, hc1, hbi, hbn]
              | true =>
                have ho : offTo st pr rg fl (k + 1) = offTo st pr rg fl k ++ [⟨x, k, y⟩] := offTo_t (by unfold offAt; rw [hx, hy]; simp [hdo])
                cases hbo : bestOf (offTo st pr rg fl k) with
                | none =>
                  have hbn : bI st pr rg fl k = -1 := by unfold bI; rw [hbo]
                  have hbi : bI st pr rg fl (k + 1) = k := by unfold bI; rw [ho, bestOf_snoc, hbo]; rfl
                  simp (decide := true) (maxSteps := 4000000) only [go_sem, Nat.reduceAdd, Nat.reduceSub, Nat.reduceMul, Nat.reduceDiv, Nat.reduceMod, Nat.reduceLT, Nat.reduceLeDiff, Nat.reduceEqDiff, Nat.reduceBEq, Nat.reduceBNe, Nat.reduceGT, Int.reduceAdd, Int.reduceSub, Int.reduceMul, Int.reduceNeg, Int.reduceLT, Int.reduceLE, Int.reduceEq, Int.reduceNe, Int.reduceBEq, Int.reduceBNe, Int.reduceToNat, Int.reduceGT, Int.reduceGE, ↓reduceIte, decide_true, decide_false, eq_self, Nat.mul_one, Nat.zero_mul, Nat.one_mul, Int.le_refl, Nat.le_refl, Int.cast_ofNat_Int, hlt, hd, hdy, Vial.cs, ic, hv, hdo, hbn]
                  refine hI2 _ ⟨k + 1, by omega⟩ (by simp only; omega) ?_
                  simp (decide := true) (maxSteps := 4000000) only [go_sem, Nat.reduceAdd, Nat.reduceSub, Nat.reduceMul, Nat.reduceDiv, Nat.reduceMod, Nat.reduceLT, Nat.reduceLeDiff, Nat.reduceEqDiff, Nat.reduceBEq, Nat.reduceBNe, Nat.reduceGT, Int.reduceAdd, Int.reduceSub, Int.reduceMul, Int.reduceNeg, Int.reduceLT, Int.reduceLE, Int.reduceEq, Int.reduceNe, Int.reduceBEq, Int.reduceBNe, Int.reduceToNat, Int.reduceGT, Int.reduceGE, ↓reduceIte, decide_true, decide_false, eq_self, Nat.mul_one, Nat.zero_mul, Nat.one_mul, Int.le_refl, Nat.le_refl, Int.cast_ofNat_Int, hc1, hbi]
                | some b =>
                  obtain ⟨i, hi, hbx, hp, _⟩ := offTo_mem (bestOf_mem _ _ hbo)
                  have hbn : bI st pr rg fl k = i := by unfold bI; rw [hbo]; exact hbx
                  have hi0 : ¬ (i : Int) < 0 := by omega
                  have hil : (i : Int) < st.length := by omega
                  have hdi := flat_at ic (n := 1) (fun _ => rfl) hp
                  rw [Nat.mul_one] at hdi
                  by_cases hyb : y < b.p
                  · have hbi : bI st pr rg fl (k + 1) = k := by unfold bI; rw [ho, bestOf_snoc, hbo]; simp [bestStep, hyb]
                    simp (decide := true) (maxSteps := 4000000) only [go_sem, Nat.reduceAdd, Nat.reduceSub, Nat.reduceMul, Nat.reduceDiv, Nat.reduceMod, Nat.reduceLT, Nat.reduceLeDiff, Nat.reduceEqDiff, Nat.reduceBEq, Nat.reduceBNe, Nat.reduceGT, Int.reduceAdd, Int.reduceSub, Int.reduceMul, Int.reduceNeg, Int.reduceLT, Int.reduceLE, Int.reduceEq, Int.reduceNe, Int.reduceBEq, Int.reduceBNe, Int.reduceToNat, Int.reduceGT, Int.reduceGE, ↓reduceIte, decide_true, decide_false, eq_self, Nat.mul_one, Nat.zero_mul, Nat.one_mul, Int.le_refl, Nat.le_refl, Int.cast_ofNat_Int, hlt, hd, hdy, Vial.cs, ic, hv, hdo, hbn, hi0, hil, hdi, hyb]
                    refine hI2 _ ⟨k + 1, by omega⟩ (by simp only; omega) ?_
                    simp (decide := true) (maxSteps := 4000000) only [go_sem, Nat.reduceAdd, Nat.reduceSub, Nat.reduceMul, Nat.reduceDiv, Nat.reduceMod, Nat.reduceLT, Nat.reduceLeDiff, Nat.reduceEqDiff, Nat.reduceBEq, Nat.reduceBNe, Nat.reduceGT, Int.reduceAdd, Int.reduceSub, Int.reduceMul, Int.reduceNeg, Int.reduceLT, Int.reduceLE, Int.reduceEq, Int.reduceNe, Int.reduceBEq, Int.reduceBNe, Int.reduceToNat, Int.reduceGT, Int.reduceGE, ↓reduceIte, decide_true, decide_false, eq_self, Nat.mul_one, Nat.zero_mul, Nat.one_mul, Int.le_refl, Nat.le_refl, Int.cast_ofNat_Int, hc1, hbi]
                  · have hbi : bI st pr rg fl (k + 1) = i := by unfold bI; rw [ho, bestOf_snoc, hbo]; simp [bestStep, hyb, hbx]
                    simp (decide := true) (maxSteps := 4000000) only [go_sem, Nat.reduceAdd, Nat.reduceSub, Nat.reduceMul, Nat.reduceDiv, Nat.reduceMod, Nat.reduceLT, Nat.reduceLeDiff, Nat.reduceEqDiff, Nat.reduceBEq, Nat.reduceBNe, Nat.reduceGT, Int.reduceAdd, Int.reduceSub, Int.reduceMul, Int.reduceNeg, Int.reduceLT, Int.reduceLE, Int.reduceEq, Int.reduceNe, Int.reduceBEq, Int.reduceBNe, Int.reduceToNat, Int.reduceGT, Int.reduceGE, ↓reduceIte, decide_true, decide_false, eq_self, Nat.mul_one, Nat.zero_mul, Nat.one_mul, Int.le_refl, Nat.le_refl, Int.cast_ofNat_Int, hlt, hd, hdy, Vial.cs, ic, hv, hdo, hbn, hi0, hil, hdi, hyb]
                    refine hI2 _ ⟨k + 1, by omega⟩ (by simp only; omega) ?_
                    simp (decide := true) (maxSteps := 4000000) only [go_sem, Nat.reduceAdd, Nat.reduceSub, Nat.reduceMul, Nat.reduceDiv, Nat.reduceMod, Nat.reduceLT, Nat.reduceLeDiff, Nat.reduceEqDiff, Nat.reduceBEq, Nat.reduceBNe, Nat.reduceGT, Int.reduceAdd, Int.reduceSub, Int.reduceMul, Int.reduceNeg, Int.reduceLT, Int.reduceLE, Int.reduceEq, Int.reduceNe, Int.reduceBEq, Int.reduceBNe, Int.reduceToNat, Int.reduceGT, Int.reduceGE, ↓reduceIte, decide_true, decide_false, eq_self, Nat.mul_one, Nat.zero_mul, Nat.one_mul, Int.le_refl, Nat.le_refl, Int.cast_ofNat_Int, hc1, hbi, hbn]
            · have hkl : k = st.length := by omega
              subst hkl
              simp (decide := true) (maxSteps := 4000000) only [go_sem, Nat.reduceAdd, Nat.reduceSub, Nat.reduceMul, Nat.reduceDiv, Nat.reduceMod, Nat.reduceLT, Nat.reduceLeDiff, Nat.reduceEqDiff, Nat.reduceBEq, Nat.reduceBNe, Nat.reduceGT, Int.reduceAdd, Int.reduceSub, Int.reduceMul, Int.reduceNeg, Int.reduceLT, Int.reduceLE, Int.reduceEq, Int.reduceNe, Int.reduceBEq, Int.reduceBNe, Int.reduceToNat, Int.reduceGT, Int.reduceGE, ↓reduceIte, decide_true, decide_false, eq_self, Nat.mul_one, Nat.zero_mul, Nat.one_mul, Int.le_refl, Nat.le_refl, Int.cast_ofNat_Int, hlt]
              refine hQ2 _ _ ?_
              cases hbo : bestOf (offTo st pr rg fl st.length) with
              | none =>
                have hbn : bI st pr rg fl st.length = -1 := by unfold bI; rw [hbo]
                have hr : chooseP st pr rg fl = (0, 4) := by unfold chooseP; rw [hok, hbo]; rfl
                simp (decide := true) (maxSteps := 4000000) only [go_sem, Nat.reduceAdd, Nat.reduceSub, Nat.reduceMul, Nat.reduceDiv, Nat.reduceMod, Nat.reduceLT, Nat.reduceLeDiff, Nat.reduceEqDiff, Nat.reduceBEq, Nat.reduceBNe, Nat.reduceGT, Int.reduceAdd, Int.reduceSub, Int.reduceMul, Int.reduceNeg, Int.reduceLT, Int.reduceLE, Int.reduceEq, Int.reduceNe, Int.reduceBEq, Int.reduceBNe, Int.reduceToNat, Int.reduceGT, Int.reduceGE, ↓reduceIte, decide_true, decide_false, eq_self, Nat.mul_one, Nat.zero_mul, Nat.one_mul, Int.le_refl, Nat.le_refl, Int.cast_ofNat_Int, hbn, hr]
              | some b =>
                obtain ⟨i, hi, hbx, hp, _⟩ := offTo_mem (bestOf_mem _ _ hbo)
                have hbn : bI st pr rg fl st.length = i := by unfold bI; rw [hbo]; exact hbx
                have hr : chooseP st pr rg fl = (b.i, 0) := by unfold chooseP; rw [hok, hbo]; rfl
                have hi0 : ¬ (i : Int) < 0 := by omega
                simp (decide := true) (maxSteps := 4000000) only [go_sem, Nat.reduceAdd, Nat.reduceSub, Nat.reduceMul, Nat.reduceDiv, Nat.reduceMod, Nat.reduceLT, Nat.reduceLeDiff, Nat.reduceEqDiff, Nat.reduceBEq, Nat.reduceBNe, Nat.reduceGT, Int.reduceAdd, Int.reduceSub, Int.reduceMul, Int.reduceNeg, Int.reduceLT, Int.reduceLE, Int.reduceEq, Int.reduceNe, Int.reduceBEq, Int.reduceBNe, Int.reduceToNat, Int.reduceGT, Int.reduceGE, ↓reduceIte, decide_true, decide_false, eq_self, Nat.mul_one, Nat.zero_mul, Nat.one_mul, Int.le_refl, Nat.le_refl, Int.cast_ofNat_Int, hbn, hr, hi0, hbx]
noncomputable def grChoose : List TV → Option TV
  | [s, t, .agg [.int .i64 rg, .int .i64 fl]] => match rowL unVials s, rowL unI t with
    | some a, some b => some (.tup [.int .i64 (chooseP a b rg fl).1, .int .i64 (chooseP a b rg fl).2])
    | _, _ => none
  | _ => none
theorem grChoose_ok : ∀ xs r, grChoose xs = some r → PCalls Try.prog 31 xs r := by
  intro xs r h
  unfold grChoose at h
  split at h
  · split at h
    · rename_i a b ha hb
      cases h; exact rChoose_c (rowL_some (un := unVials) rfl (@unVials_some) ha) (rowL_some (un := unI) rfl (@unI_some) hb) _ _
    · cases h
  · cases h
attribute [go_sem] grChoose
noncomputable def spM3 : Pm.Spec := spK1.one 31 grChoose
@[go_sem] theorem spM3_p (f : FuncId) (xs : List TV) : spM3.p f xs = Pm.Spec.p (spK1.one 31 grChoose) f xs := rfl
@[go_sem] theorem spM3_h (f : FuncId) (ps : List PV) (hl : List PO) : spM3.h f ps hl = Pm.Spec.h (spK1.one 31 grChoose) f ps hl := rfl
@[go_sem] theorem spM3_fz (f : FuncId) : spM3.fz f = Pm.Spec.fz (spK1.one 31 grChoose) f := rfl
@[go_sem] theorem spM3_fr (f : FuncId) : spM3.fr f = Pm.Spec.fr (spK1.one 31 grChoose) f := rfl
@[go_sem] theorem spM3_mu (t : TypeId) : spM3.mu t = Pm.Spec.mu (spK1.one 31 grChoose) t := rfl
theorem spM3_ok : SpecOk Try.prog spM3 := Spec.one_ok grChoose_ok spK1_ok
theorem LevelChoices_c {st : List Vial} {pr : List Int} {s t : TV} (hs : IsRow Vial.cs s st) (ht : IsRow ic t pr) (rg fl : Int) (hl : st.length ≤ 2199023255552) : PCalls Try.prog 7 [s, t, .agg [.int .i64 rg, .int .i64 fl]] (.bool true) := by
  have hun : unVials [] = some [] := rfl
  have hun' : unI [] = some [] := rfl
  refine pcalls_by Try.mixes spM3_ok (fn := Try.f7) Try.func7 rfl (by kernel_rfl) (by show 3 ≤ _; decide) ?_
  rcases hs with ⟨rfl, rfl⟩ | ⟨full, rfl⟩ <;> rcases ht with ⟨rfl, rfl⟩ | ⟨full', rfl⟩ <;> simp (decide := true) (maxSteps := 4000000) only [go_sem, Nat.reduceAdd, Nat.reduceSub, Nat.reduceMul, Nat.reduceDiv, Nat.reduceMod, Nat.reduceLT, Nat.reduceLeDiff, Nat.reduceEqDiff, Nat.reduceBEq, Nat.reduceBNe, Nat.reduceGT, Int.reduceAdd, Int.reduceSub, Int.reduceMul, Int.reduceNeg, Int.reduceLT, Int.reduceLE, Int.reduceEq, Int.reduceNe, Int.reduceBEq, Int.reduceBNe, Int.reduceToNat, Int.reduceGT, Int.reduceGE, ↓reduceIte, decide_true, decide_false, eq_self, Nat.mul_one, Nat.zero_mul, Nat.one_mul, Int.le_refl, Nat.le_refl, Int.cast_ofNat_Int, Try.f7, unVials_eq, ic_ints, unI_eq, hun, hun', hl, beq_self_eq_true, List.length_nil]
end Go.Proofs.Ytgofljmnlfnlnaa
