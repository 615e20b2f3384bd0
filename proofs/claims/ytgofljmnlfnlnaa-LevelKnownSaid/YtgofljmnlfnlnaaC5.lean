/- What the claim leans on, text 5. -/
import Derived.Test.YtgofljmnlfnlnaaC4
set_option linter.unusedSimpArgs false
set_option linter.unusedVariables false

/- Part Lf. -/
namespace Go.Proofs.Ytgofljmnlfnlnaa
open Go.RowKit Go.Pm Go.Oc
set_option maxRecDepth 100000
set_option linter.unusedVariables false
set_option maxHeartbeats 4000000

def Tk.cs (T : Tk) : List TV := [.bool T.b0, .bool T.b1, .bool T.b2, .bool T.b3, .bool T.b4, .bool T.b5, .bool T.b6, .bool T.b7]
theorem tk_get (T : Tk) {i : Nat} (h : i < 8) : ([.t (.bool T.b0), .t (.bool T.b1), .t (.bool T.b2), .t (.bool T.b3), .t (.bool T.b4), .t (.bool T.b5), .t (.bool T.b6), .t (.bool T.b7)] : List PV)[i]? = some (.t (.bool (T.at i))) := by
  rcases lt8 h with rfl | rfl | rfl | rfl | rfl | rfl | rfl | rfl <;> rfl
theorem tk_set (T : Tk) {i : Nat} (h : i < 8) : List.take i ([.t (.bool T.b0), .t (.bool T.b1), .t (.bool T.b2), .t (.bool T.b3), .t (.bool T.b4), .t (.bool T.b5), .t (.bool T.b6), .t (.bool T.b7)] : List PV) ++ [.t (.bool true)] ++ List.drop i ([.t (.bool T.b1), .t (.bool T.b2), .t (.bool T.b3), .t (.bool T.b4), .t (.bool T.b5), .t (.bool T.b6), .t (.bool T.b7)] : List PV) = [.t (.bool (T.set i).b0), .t (.bool (T.set i).b1), .t (.bool (T.set i).b2), .t (.bool (T.set i).b3), .t (.bool (T.set i).b4), .t (.bool (T.set i).b5), .t (.bool (T.set i).b6), .t (.bool (T.set i).b7)] := by
  rcases lt8 h with rfl | rfl | rfl | rfl | rfl | rfl | rfl | rfl <;> simp [Tk.set]
theorem tk_ne {T : Tk} {i : Nat} (h : T.at i = true) : (!T.b0 && (!T.b1 && (!T.b2 && (!T.b3 && (!T.b4 && (!T.b5 && (!T.b6 && !T.b7))))))) = false := by
  have : i < 8 := by
    rcases Nat.lt_or_ge i 8 with h8 | h8
    · exact h8
    · unfold Tk.at at h; split at h <;> first | omega | cases h
  rcases lt8 this with rfl | rfl | rfl | rfl | rfl | rfl | rfl | rfl <;> simp only [Tk.at] at h <;> simp [h]
open Classical in
noncomputable def gC (v : Vial) (l : List Mk) (m : Nat) : List PV → List PO → Option (PV × List PO)
  | [.t (.agg [.bool b0, .bool b1, .bool b2, .bool b3, .bool b4, .bool b5, .bool b6, .bool b7]), .t (.int .i64 fr), .t (.int .i64 mm), .ptr 0 0, .ptr 1 0, .ptr 2 0, .ptr 3 0], [.box [.t o], .box a, .box vc, .box [.fnc 56 [0, 1, 2, 3]]] =>
    if mm = m ∧ (0 ≤ fr ∧ fr ≤ 8) ∧ a = [.t (.sl (l.flatMap Mk.als) l.length false)] ∧ vc = v.cs.map .t ∧ (0 < m ∨ ∃ i, i < l.length ∧ (Tk.mk b0 b1 b2 b3 b4 b5 b6 b7).at i = true) then
      some (.t (.bool (chooseS v l m ⟨b0, b1, b2, b3, b4, b5, b6, b7⟩ fr.toNat o).1), [.box [.t (chooseS v l m ⟨b0, b1, b2, b3, b4, b5, b6, b7⟩ fr.toNat o).2], .box a, .box vc, .box [.fnc 56 [0, 1, 2, 3]]])
    else none
  | _, _ => none
/-- The contract, as far as so many. -/
def ChooseC (v : Vial) (l : List Mk) (m : Nat) : Prop := ∀ (T : Tk) (fr : Nat) (o : TV), fr ≤ 8 → (0 < m ∨ ∃ i, i < l.length ∧ T.at i = true) →
  HCalls Try.prog 56 [.t (.agg (Tk.cs T)), .t (.int .i64 fr), .t (.int .i64 m), .ptr 0 0, .ptr 1 0, .ptr 2 0, .ptr 3 0] (getL [.box [.t o], .box [.t (.sl (l.flatMap Mk.als) l.length false)], .box (v.cs.map .t), .box [.fnc 56 [0, 1, 2, 3]]])
    (.t (.bool (chooseS v l m T fr o).1)) (getL [.box [.t (chooseS v l m T fr o).2], .box [.t (.sl (l.flatMap Mk.als) l.length false)], .box (v.cs.map .t), .box [.fnc 56 [0, 1, 2, 3]]])
theorem gC_ok {v : Vial} {l : List Mk} {m : Nat} (h : ChooseC v l m) : ∀ xs hl r hl', gC v l m xs hl = some (r, hl') → HCalls Try.prog 56 xs (getL hl) r (getL hl') := by
  intro xs hl r hl' hg
  unfold gC at hg
  split at hg
  · split at hg
    · rename_i b0 b1 b2 b3 b4 b5 b6 b7 fr mm o a vc hc
      obtain ⟨rfl, hf, rfl, rfl, ht⟩ := hc
      simp only [Option.some.injEq, Prod.mk.injEq] at hg
      obtain ⟨rfl, rfl⟩ := hg
      have := h ⟨b0, b1, b2, b3, b4, b5, b6, b7⟩ fr.toNat o (by omega) ht
      rw [Int.toNat_of_nonneg hf.1] at this
      exact this
    · cases hg
  · cases hg
theorem choose_zero (v : Vial) (l : List Mk) (hv : v.ok = true) (hm : mksOk l = true) (hl : l.length ≤ 8) : ChooseC v l 0 := by
  intro T fr o hf ht
  obtain ⟨i, hi, hti⟩ := ht.resolve_left (by omega)
  have hne := tk_ne hti
  have h00 : (((0 : Nat) : Int) == 0) = true := rfl
  refine hcalls_by Try.mixes spL5_ok (fn := Try.f56) Try.func56 rfl (by kernel_rfl) (by show 7 ≤ _; decide) ?_
  simp (decide := true) (maxSteps := 4000000) only [go_sem, Nat.reduceAdd, Nat.reduceSub, Nat.reduceMul, Nat.reduceDiv, Nat.reduceMod, Nat.reduceLT, Nat.reduceLeDiff, Nat.reduceEqDiff, Nat.reduceBEq, Nat.reduceBNe, Nat.reduceGT, Int.reduceAdd, Int.reduceSub, Int.reduceMul, Int.reduceNeg, Int.reduceLT, Int.reduceLE, Int.reduceEq, Int.reduceNe, Int.reduceBEq, Int.reduceBNe, Int.reduceToNat, Int.reduceGT, Int.reduceGE, ↓reduceIte, decide_true, decide_false, Try.f56, Tk.cs, Vial.cs, hne, h00]
  refine pwpC_loopQ (A := { k : Nat // k ≤ l.length }) (fun k => { env := [(28, .t (.int .i64 k.1)), (27, .t (.int .i64 l.length)), (26, .t (.sl (l.flatMap Mk.als) l.length false)), (11, .own ((sel l T k.1).flatMap Mk.als) (cntT T k.1) 5), (7, .ptr 4 0), (3, .ptr 0 0), (4, .ptr 1 0), (5, .ptr 2 0), (6, .ptr 3 0)], heap := [.box [.own (ints (idx T k.1)) (cntT T k.1) 6], .box [.t (.sl (l.flatMap Mk.als) l.length false)], .box (v.cs.map .t), .box [.fnc 56 [0, 1, 2, 3]], .box ((Tk.cs T).map .t), .tok (cntT T k.1) 82, .tok (cntT T k.1) 3] }) (fun k => l.length - k.1) ⟨0, by omega⟩ ?_ (fun k => by rfl) fun Q1 hQ1 ⟨k, hk⟩ I1 hI1 => ?_
  · simp (decide := true) (maxSteps := 4000000) only [go_sem, Nat.reduceAdd, Nat.reduceSub, Nat.reduceMul, Nat.reduceDiv, Nat.reduceMod, Nat.reduceLT, Nat.reduceLeDiff, Nat.reduceEqDiff, Nat.reduceBEq, Nat.reduceBNe, Nat.reduceGT, Int.reduceAdd, Int.reduceSub, Int.reduceMul, Int.reduceNeg, Int.reduceLT, Int.reduceLE, Int.reduceEq, Int.reduceNe, Int.reduceBEq, Int.reduceBNe, Int.reduceToNat, Int.reduceGT, Int.reduceGE, ↓reduceIte, decide_true, decide_false, Vial.cs, Tk.cs]
    simp [sel, idx, ints, cntT]
  · by_cases hlt : (k : Int) < l.length
    · obtain ⟨x, hx⟩ := get_lt hlt
      have hd := flat_at Mk.als (n := 1) (fun _ => rfl) hx
      have hc1 : IntKind.i64.wrap (k + 1) = ((k + 1 : Nat) : Int) := by rw [wrap_in (by omega) (by omega)]; omega
      have hd1 : l.length - (k + 1) < l.length - k := by omega
      have hk8 : (k : Int) < ((8 : Nat) : Int) := by omega
      have hk8' : (k : Int) < 8 := by omega
      rw [Nat.mul_one] at hd
      have hg := tk_get T (i := k) (by omega)
      cases ht : T.at k with
      | false =>
        rw [ht] at hg
        simp (decide := true) (maxSteps := 4000000) only [go_sem, Nat.reduceAdd, Nat.reduceSub, Nat.reduceMul, Nat.reduceDiv, Nat.reduceMod, Nat.reduceLT, Nat.reduceLeDiff, Nat.reduceEqDiff, Nat.reduceBEq, Nat.reduceBNe, Nat.reduceGT, Int.reduceAdd, Int.reduceSub, Int.reduceMul, Int.reduceNeg, Int.reduceLT, Int.reduceLE, Int.reduceEq, Int.reduceNe, Int.reduceBEq, Int.reduceBNe, Int.reduceToNat, Int.reduceGT, Int.reduceGE, ↓reduceIte, decide_true, decide_false, eq_self, Nat.mul_one, Nat.zero_mul, Nat.one_mul, Int.le_refl, Nat.le_refl, Int.cast_ofNat_Int, hlt, hd, Mk.als, Mk.al, Vial.cs, Tk.cs, hk8, hk8', hg]
        refine hI1 _ ⟨k + 1, by omega⟩ (by simp only; omega) ?_
        simp (decide := true) (maxSteps := 4000000) only [go_sem, Nat.reduceAdd, Nat.reduceSub, Nat.reduceMul, Nat.reduceDiv, Nat.reduceMod, Nat.reduceLT, Nat.reduceLeDiff, Nat.reduceEqDiff, Nat.reduceBEq, Nat.reduceBNe, Nat.reduceGT, Int.reduceAdd, Int.reduceSub, Int.reduceMul, Int.reduceNeg, Int.reduceLT, Int.reduceLE, Int.reduceEq, Int.reduceNe, Int.reduceBEq, Int.reduceBNe, Int.reduceToNat, Int.reduceGT, Int.reduceGE, ↓reduceIte, decide_true, decide_false, hc1, hd1, Vial.cs, Tk.cs, sel_f ht, idx_f ht, cnt_f ht]
      | true =>
        rw [ht] at hg
        have hcl := cnt_le T k
        have hr1 : (cntT T k + 1) * 16 ≤ 140737488355328 := by omega
        have hr2 : (cntT T k + 1) * 8 ≤ 140737488355328 := by omega
        have e1 : (List.flatMap Mk.als (sel l T k)).length = cntT T k * 1 := by rw [flat_len Mk.als (n := 1) (fun _ => rfl), sel_len (by omega)]
        have e2 : (ints (idx T k)).length = cntT T k * 1 := by rw [ints_len, idx_len, Nat.mul_one]
        rw [Nat.mul_one] at e1 e2
        simp (decide := true) (maxSteps := 4000000) only [go_sem, Nat.reduceAdd, Nat.reduceSub, Nat.reduceMul, Nat.reduceDiv, Nat.reduceMod, Nat.reduceLT, Nat.reduceLeDiff, Nat.reduceEqDiff, Nat.reduceBEq, Nat.reduceBNe, Nat.reduceGT, Int.reduceAdd, Int.reduceSub, Int.reduceMul, Int.reduceNeg, Int.reduceLT, Int.reduceLE, Int.reduceEq, Int.reduceNe, Int.reduceBEq, Int.reduceBNe, Int.reduceToNat, Int.reduceGT, Int.reduceGE, ↓reduceIte, decide_true, decide_false, eq_self, Nat.mul_one, Nat.zero_mul, Nat.one_mul, Int.le_refl, Nat.le_refl, Int.cast_ofNat_Int, hlt, hd, Mk.als, Mk.al, Vial.cs, Tk.cs, hk8, hk8', hg, hr1, hr2, e1, e2]
        refine hI1 _ ⟨k + 1, by omega⟩ (by simp only; omega) ?_
        simp (decide := true) (maxSteps := 4000000) only [go_sem, Nat.reduceAdd, Nat.reduceSub, Nat.reduceMul, Nat.reduceDiv, Nat.reduceMod, Nat.reduceLT, Nat.reduceLeDiff, Nat.reduceEqDiff, Nat.reduceBEq, Nat.reduceBNe, Nat.reduceGT, Int.reduceAdd, Int.reduceSub, Int.reduceMul, Int.reduceNeg, Int.reduceLT, Int.reduceLE, Int.reduceEq, Int.reduceNe, Int.reduceBEq, Int.reduceBNe, Int.reduceToNat, Int.reduceGT, Int.reduceGE, ↓reduceIte, decide_true, decide_false, eq_self, Nat.mul_one, Nat.zero_mul, Nat.one_mul, Int.le_refl, Nat.le_refl, Int.cast_ofNat_Int, hc1, hd1, Vial.cs, Tk.cs, sel_t ht hx, idx_t ht, cnt_t ht, List.flatMap_append, Mk.als, Mk.al, ints_snoc]
    · have hkl : k = l.length := by omega
      subst hkl
      have hcp := cnt_pos hi hti
      have hcn : ¬ cntT T l.length = 0 := by omega
      have hsl := sel_len (l := l) (T := T) (k := l.length) (Nat.le_refl _)
      have hcl := cnt_le T l.length
      have c1 : 1 ≤ (sel l T l.length).length := by omega
      have c2 : (sel l T l.length).length ≤ 100 := by omega
      have c3 := sel_ok (T := T) (k := l.length) hm
      simp (decide := true) (maxSteps := 4000000) only [go_sem, Nat.reduceAdd, Nat.reduceSub, Nat.reduceMul, Nat.reduceDiv, Nat.reduceMod, Nat.reduceLT, Nat.reduceLeDiff, Nat.reduceEqDiff, Nat.reduceBEq, Nat.reduceBNe, Nat.reduceGT, Int.reduceAdd, Int.reduceSub, Int.reduceMul, Int.reduceNeg, Int.reduceLT, Int.reduceLE, Int.reduceEq, Int.reduceNe, Int.reduceBEq, Int.reduceBNe, Int.reduceToNat, Int.reduceGT, Int.reduceGE, ↓reduceIte, decide_true, decide_false, hlt]
      refine hQ1 _ _ ?_
      rw [hsl] at c1 c2
      simp (decide := true) (maxSteps := 4000000) only [go_sem, Nat.reduceAdd, Nat.reduceSub, Nat.reduceMul, Nat.reduceDiv, Nat.reduceMod, Nat.reduceLT, Nat.reduceLeDiff, Nat.reduceEqDiff, Nat.reduceBEq, Nat.reduceBNe, Nat.reduceGT, Int.reduceAdd, Int.reduceSub, Int.reduceMul, Int.reduceNeg, Int.reduceLT, Int.reduceLE, Int.reduceEq, Int.reduceNe, Int.reduceBEq, Int.reduceBNe, Int.reduceToNat, Int.reduceGT, Int.reduceGE, ↓reduceIte, decide_true, decide_false, eq_self, Nat.mul_one, Nat.zero_mul, Nat.one_mul, Int.le_refl, Nat.le_refl, Int.cast_ofNat_Int, hcn, hv, c1, c2, c3, hsl, Vial.cs, Tk.cs, TZ.t, Span.t, Span.cs, chooseS, leafO, idx_len]
      exact ⟨_, rfl, rfl⟩
theorem choose_succ (v : Vial) (l : List Mk) (hv : v.ok = true) (hm : mksOk l = true) (hl : l.length ≤ 8) {m : Nat} (ih : ChooseC v l m) (hm8 : m ≤ 8) : ChooseC v l (m + 1) := by
  intro T fr o hf _
  have hm1 : (((m + 1 : Nat) : Int) == 0) = false := by simp; omega
  have hm2 : ((m + 1 : Nat) : Int) > 0 := by omega
  have hm3 : IntKind.i64.wrap (((m + 1 : Nat) : Int) - 1) = (m : Int) := by rw [wrap_in (by omega) (by omega)]; omega
  refine hcalls_by Try.mixes (Spec.oneH_ok (gC_ok ih) spL5_ok) (fn := Try.f56) Try.func56 rfl (by kernel_rfl) (by show 7 ≤ _; decide) ?_
  simp (decide := true) (maxSteps := 4000000) only [go_sem, Nat.reduceAdd, Nat.reduceSub, Nat.reduceMul, Nat.reduceDiv, Nat.reduceMod, Nat.reduceLT, Nat.reduceLeDiff, Nat.reduceEqDiff, Nat.reduceBEq, Nat.reduceBNe, Nat.reduceGT, Int.reduceAdd, Int.reduceSub, Int.reduceMul, Int.reduceNeg, Int.reduceLT, Int.reduceLE, Int.reduceEq, Int.reduceNe, Int.reduceBEq, Int.reduceBNe, Int.reduceToNat, Int.reduceGT, Int.reduceGE, ↓reduceIte, decide_true, decide_false, Try.f56, Tk.cs, Vial.cs, hm1]
  refine pwpC_loopQ (A := { j : Nat // fr + j ≤ 8 ∧ (l.length < fr + j → j = 0) ∧ (chooseTo v l m T fr o j).1 = false }) (fun j => { env := [(17, .t (.int .i64 ((fr + j.1 : Nat) : Int))), (2, .t (.int .i64 ((m + 1 : Nat) : Int))), (7, .ptr 4 0), (3, .ptr 0 0), (4, .ptr 1 0), (5, .ptr 2 0), (6, .ptr 3 0)], heap := [.box [.t (chooseTo v l m T fr o j.1).2], .box [.t (.sl (l.flatMap Mk.als) l.length false)], .box (v.cs.map .t), .box [.fnc 56 [0, 1, 2, 3]], .box ((Tk.cs T).map .t)] }) (fun j => l.length - (fr + j.1)) ⟨0, by omega, by omega, rfl⟩ ?_ (fun k => by rfl) fun Q1 hQ1 ⟨j, hj8, hj0, hjf⟩ I1 hI1 => ?_
  · simp (decide := true) (maxSteps := 4000000) only [go_sem, Nat.reduceAdd, Nat.reduceSub, Nat.reduceMul, Nat.reduceDiv, Nat.reduceMod, Nat.reduceLT, Nat.reduceLeDiff, Nat.reduceEqDiff, Nat.reduceBEq, Nat.reduceBNe, Nat.reduceGT, Int.reduceAdd, Int.reduceSub, Int.reduceMul, Int.reduceNeg, Int.reduceLT, Int.reduceLE, Int.reduceEq, Int.reduceNe, Int.reduceBEq, Int.reduceBNe, Int.reduceToNat, Int.reduceGT, Int.reduceGE, ↓reduceIte, decide_true, decide_false, Vial.cs, Tk.cs, chooseTo, List.range']
  · by_cases hlt : ((fr + j : Nat) : Int) < l.length
    · have hj7 : fr + j < 8 := by omega
      have hc1 : IntKind.i64.wrap (((fr + j : Nat) : Int) + 1) = ((fr + j + 1 : Nat) : Int) := by rw [wrap_in (by omega) (by omega)]; omega
      have hk8 : ((fr + j : Nat) : Int) < ((8 : Nat) : Int) := by omega
      have hk8' : ((fr + j : Nat) : Int) < 8 := by omega
      have hk9 : ((fr + j + 1 : Nat) : Int) ≤ 8 := by omega
      have hset := tk_set T hj7
      have hj77 : fr + j ≤ 7 := by omega
      have hT : 0 < m ∨ ∃ i, i < l.length ∧ Tk.at ⟨(T.set (fr + j)).b0, (T.set (fr + j)).b1, (T.set (fr + j)).b2, (T.set (fr + j)).b3, (T.set (fr + j)).b4, (T.set (fr + j)).b5, (T.set (fr + j)).b6, (T.set (fr + j)).b7⟩ i = true := by
        refine .inr ⟨fr + j, by omega, ?_⟩
        have := Tk.at_set T hj7 (fr + j)
        simp only [beq_self_eq_true, Bool.or_true] at this
        exact this
      have hnx := chooseTo_succ (v := v) (l := l) (m := m) (T := T) (fr := fr) (o := o) hjf
      have hfold : chooseS v l (m + 1) T fr o = chooseTo v l m T fr o (l.length - fr) := chooseS_succ ..
      cases hb : (chooseS v l m (T.set (fr + j)) (fr + j + 1) (chooseTo v l m T fr o j).2).1 with
      | true =>
        have hb2 : (chooseTo v l m T fr o (j + 1)).1 = true := by rw [hnx]; exact hb
        have hst := chooseTo_stop hb2 (l.length - fr - (j + 1))
        rw [show j + 1 + (l.length - fr - (j + 1)) = l.length - fr by omega] at hst
        rw [hst, hnx] at hfold
        simp (decide := true) (maxSteps := 4000000) only [go_sem, Nat.reduceAdd, Nat.reduceSub, Nat.reduceMul, Nat.reduceDiv, Nat.reduceMod, Nat.reduceLT, Nat.reduceLeDiff, Nat.reduceEqDiff, Nat.reduceBEq, Nat.reduceBNe, Nat.reduceGT, Int.reduceAdd, Int.reduceSub, Int.reduceMul, Int.reduceNeg, Int.reduceLT, Int.reduceLE, Int.reduceEq, Int.reduceNe, Int.reduceBEq, Int.reduceBNe, Int.reduceToNat, Int.reduceGT, Int.reduceGE, ↓reduceIte, decide_true, decide_false, eq_self, Nat.mul_one, Nat.zero_mul, Nat.one_mul, Int.le_refl, Nat.le_refl, Int.cast_ofNat_Int, hlt, hm2, hm3, Vial.cs, Tk.cs, hc1, hk8, hk8', hk9, hset, hj77, hT, gC, hb]
        refine hQ1 _ _ ?_
        simp (decide := true) (maxSteps := 4000000) only [go_sem, Nat.reduceAdd, Nat.reduceSub, Nat.reduceMul, Nat.reduceDiv, Nat.reduceMod, Nat.reduceLT, Nat.reduceLeDiff, Nat.reduceEqDiff, Nat.reduceBEq, Nat.reduceBNe, Nat.reduceGT, Int.reduceAdd, Int.reduceSub, Int.reduceMul, Int.reduceNeg, Int.reduceLT, Int.reduceLE, Int.reduceEq, Int.reduceNe, Int.reduceBEq, Int.reduceBNe, Int.reduceToNat, Int.reduceGT, Int.reduceGE, ↓reduceIte, decide_true, decide_false, eq_self, Nat.mul_one, Nat.zero_mul, Nat.one_mul, Int.le_refl, Nat.le_refl, Int.cast_ofNat_Int, hfold, hb, Vial.cs]
        exact ⟨_, rfl, rfl⟩
      | false =>
        simp (decide := true) (maxSteps := 4000000) only [go_sem, Nat.reduceAdd, Nat.reduceSub, Nat.reduceMul, Nat.reduceDiv, Nat.reduceMod, Nat.reduceLT, Nat.reduceLeDiff, Nat.reduceEqDiff, Nat.reduceBEq, Nat.reduceBNe, Nat.reduceGT, Int.reduceAdd, Int.reduceSub, Int.reduceMul, Int.reduceNeg, Int.reduceLT, Int.reduceLE, Int.reduceEq, Int.reduceNe, Int.reduceBEq, Int.reduceBNe, Int.reduceToNat, Int.reduceGT, Int.reduceGE, ↓reduceIte, decide_true, decide_false, eq_self, Nat.mul_one, Nat.zero_mul, Nat.one_mul, Int.le_refl, Nat.le_refl, Int.cast_ofNat_Int, hlt, hm2, hm3, Vial.cs, Tk.cs, hc1, hk8, hk8', hk9, hset, hj77, hT, gC, hb]
        refine hI1 _ ⟨j + 1, by omega, by omega, by rw [hnx]; exact hb⟩ (by simp only; omega) ?_
        simp (decide := true) (maxSteps := 4000000) only [go_sem, Nat.reduceAdd, Nat.reduceSub, Nat.reduceMul, Nat.reduceDiv, Nat.reduceMod, Nat.reduceLT, Nat.reduceLeDiff, Nat.reduceEqDiff, Nat.reduceBEq, Nat.reduceBNe, Nat.reduceGT, Int.reduceAdd, Int.reduceSub, Int.reduceMul, Int.reduceNeg, Int.reduceLT, Int.reduceLE, Int.reduceEq, Int.reduceNe, Int.reduceBEq, Int.reduceBNe, Int.reduceToNat, Int.reduceGT, Int.reduceGE, ↓reduceIte, decide_true, decide_false, eq_self, Nat.mul_one, Nat.zero_mul, Nat.one_mul, Int.le_refl, Nat.le_refl, Int.cast_ofNat_Int, hc1, Vial.cs, Tk.cs, hnx]
        rw [Nat.add_assoc]
    · simp (decide := true) (maxSteps := 4000000) only [go_sem, Nat.reduceAdd, Nat.reduceSub, Nat.reduceMul, Nat.reduceDiv, Nat.reduceMod, Nat.reduceLT, Nat.reduceLeDiff, Nat.reduceEqDiff, Nat.reduceBEq, Nat.reduceBNe, Nat.reduceGT, Int.reduceAdd, Int.reduceSub, Int.reduceMul, Int.reduceNeg, Int.reduceLT, Int.reduceLE, Int.reduceEq, Int.reduceNe, Int.reduceBEq, Int.reduceBNe, Int.reduceToNat, Int.reduceGT, Int.reduceGE, ↓reduceIte, decide_true, decide_false, eq_self, Nat.mul_one, Nat.zero_mul, Nat.one_mul, Int.le_refl, Nat.le_refl, Int.cast_ofNat_Int, hlt, hm2]
      refine hQ1 _ _ ?_
      have hfold : chooseS v l (m + 1) T fr o = chooseTo v l m T fr o (l.length - fr) := chooseS_succ ..
      have hje : j = l.length - fr := by omega
      rw [← hje] at hfold
      simp (decide := true) (maxSteps := 4000000) only [go_sem, Nat.reduceAdd, Nat.reduceSub, Nat.reduceMul, Nat.reduceDiv, Nat.reduceMod, Nat.reduceLT, Nat.reduceLeDiff, Nat.reduceEqDiff, Nat.reduceBEq, Nat.reduceBNe, Nat.reduceGT, Int.reduceAdd, Int.reduceSub, Int.reduceMul, Int.reduceNeg, Int.reduceLT, Int.reduceLE, Int.reduceEq, Int.reduceNe, Int.reduceBEq, Int.reduceBNe, Int.reduceToNat, Int.reduceGT, Int.reduceGE, ↓reduceIte, decide_true, decide_false, eq_self, Nat.mul_one, Nat.zero_mul, Nat.one_mul, Int.le_refl, Nat.le_refl, Int.cast_ofNat_Int, hfold, hjf, Vial.cs]
      exact ⟨_, rfl, rfl⟩
theorem choose_all (v : Vial) (l : List Mk) (hv : v.ok = true) (hm : mksOk l = true) (hl : l.length ≤ 8) : ∀ m, m ≤ 8 → ChooseC v l m
  | 0, _ => choose_zero v l hv hm hl
  | m + 1, h => choose_succ v l hv hm hl (choose_all v l hv hm hl m (by omega)) (by omega)
noncomputable def gA (v : Vial) (l : List Mk) : List PV → List PO → Option (PV × List PO)
  | [t, fr, .t (.int .i64 mm), a, b, c, d], hl => if mm.toNat ≤ 8 then gC v l mm.toNat [t, fr, .t (.int .i64 mm), a, b, c, d] hl else none
  | _, _ => none
theorem gA_ok {v : Vial} {l : List Mk} (h : ∀ m, m ≤ 8 → ChooseC v l m) : ∀ xs hl r hl', gA v l xs hl = some (r, hl') → HCalls Try.prog 56 xs (getL hl) r (getL hl') := by
  intro xs hl r hl' hg
  unfold gA at hg
  split at hg
  · split at hg
    · rename_i hc; exact gC_ok (h _ hc) _ _ _ _ hg
    · cases hg
  · cases hg
theorem lFalse_c (v : Vial) {l : List Rd} {s : TV} (hs : IsRow Rd.cs s l) (hl : l.length ≤ 5864062014806) : PCalls Try.prog 23 [v.t, s] (.tup [(falseP v l).1, .int .i64 (falseP v l).2]) := by
  unfold falseP
  by_cases hk : asked v l = 0
  · obtain ⟨hv, hr⟩ := asked_zero hk
    have hm := mksOk_mid hv hr
    have h8 := rdsOk_len hr
    have h100 : l.length ≤ 100 := by omega
    have ho := openedT_yes hk
    have hml : (l.map mid).length = l.length := List.length_map _
    have hca := choose_all v (l.map mid) hv hm (by omega)
    refine pcalls_by Try.mixes (Spec.oneH_ok (gA_ok hca) spL5_ok) (fn := Try.f23) Try.func23 rfl (by kernel_rfl) (by show 2 ≤ _; decide) ?_
    obtain ⟨full, rfl⟩ := hs.ne h8.1
    cases hi : (tilts v (l.map mid)).is with
    | true => simp (decide := true) (maxSteps := 4000000) only [go_sem, Nat.reduceAdd, Nat.reduceSub, Nat.reduceMul, Nat.reduceDiv, Nat.reduceMod, Nat.reduceLT, Nat.reduceLeDiff, Nat.reduceEqDiff, Nat.reduceBEq, Nat.reduceBNe, Nat.reduceGT, Int.reduceAdd, Int.reduceSub, Int.reduceMul, Int.reduceNeg, Int.reduceLT, Int.reduceLE, Int.reduceEq, Int.reduceNe, Int.reduceBEq, Int.reduceBNe, Int.reduceToNat, Int.reduceGT, Int.reduceGE, ↓reduceIte, decide_true, decide_false, Try.f23, Vial.t, Vial.cs, hk, hl, ho, hv, h8.1, h8.2, h100, hm, List.length_map, TZ.t, Span.t, Span.cs, hi]
    | false =>
      simp (decide := true) (maxSteps := 4000000) only [go_sem, Nat.reduceAdd, Nat.reduceSub, Nat.reduceMul, Nat.reduceDiv, Nat.reduceMod, Nat.reduceLT, Nat.reduceLeDiff, Nat.reduceEqDiff, Nat.reduceBEq, Nat.reduceBNe, Nat.reduceGT, Int.reduceAdd, Int.reduceSub, Int.reduceMul, Int.reduceNeg, Int.reduceLT, Int.reduceLE, Int.reduceEq, Int.reduceNe, Int.reduceBEq, Int.reduceBNe, Int.reduceToNat, Int.reduceGT, Int.reduceGE, ↓reduceIte, decide_true, decide_false, Try.f23, Vial.t, Vial.cs, hk, hl, ho, hv, h8.1, h8.2, h100, hm, List.length_map, TZ.t, Span.t, Span.cs, hi]
      refine pwpC_loopQ (A := { k : Nat // k ≤ l.length ∧ (falseTo v (l.map mid) k).1 = false }) (fun k => { env := [(36, .t (.int .i64 k.1)), (35, .t (.int .i64 l.length)), (13, .ptr 6 0), (12, .ptr 5 0)], heap := [.box (v.cs.map .t), .box (v.cs.map .t), .box [.t (.sl ((l.map mid).flatMap Mk.als) l.length false)], .box ((tilts v (l.map mid)).tilt.cs.map .t), .box ((tilts v (l.map mid)).zero.cs.map .t), .box [.t (falseTo v (l.map mid) k.1).2], .box [.fnc 56 [5, 2, 1, 6]]] }) (fun k => l.length - k.1) ⟨0, by omega, rfl⟩ ?_ (fun k => by rfl) fun Q1 hQ1 ⟨k, hk1, hkf⟩ I1 hI1 => ?_
      · simp (decide := true) (maxSteps := 4000000) only [go_sem, Nat.reduceAdd, Nat.reduceSub, Nat.reduceMul, Nat.reduceDiv, Nat.reduceMod, Nat.reduceLT, Nat.reduceLeDiff, Nat.reduceEqDiff, Nat.reduceBEq, Nat.reduceBNe, Nat.reduceGT, Int.reduceAdd, Int.reduceSub, Int.reduceMul, Int.reduceNeg, Int.reduceLT, Int.reduceLE, Int.reduceEq, Int.reduceNe, Int.reduceBEq, Int.reduceBNe, Int.reduceToNat, Int.reduceGT, Int.reduceGE, ↓reduceIte, decide_true, decide_false, Vial.cs, Span.cs, falseTo]
      · by_cases hlt : (k : Int) < l.length
        · have hc1 : IntKind.i64.wrap (k + 1) = ((k + 1 : Nat) : Int) := by rw [wrap_in (by omega) (by omega)]; omega
          have hk8 : k + 1 ≤ 8 := by omega
          have hk7 : k ≤ 7 := by omega
          have hT : 0 < k + 1 ∨ ∃ i, i < (l.map mid).length ∧ Tk.at ⟨false, false, false, false, false, false, false, false⟩ i = true := .inl (by omega)
          have hT' : 0 < k + 1 ∨ ∃ i, i < l.length ∧ Tk.at ⟨false, false, false, false, false, false, false, false⟩ i = true := .inl (by omega)
          have hnx := falseTo_next hkf
          unfold Tk.none at hnx
          cases hb : (chooseS v (l.map mid) (k + 1) ⟨false, false, false, false, false, false, false, false⟩ 0 (falseTo v (l.map mid) k).2).1 with
          | true =>
            have hst := falseTo_stop (d := l.length - (k + 1)) (by rw [hnx]; exact hb)
            rw [show k + 1 + (l.length - (k + 1)) = l.length by omega, hnx] at hst
            simp (decide := true) (maxSteps := 4000000) only [go_sem, Nat.reduceAdd, Nat.reduceSub, Nat.reduceMul, Nat.reduceDiv, Nat.reduceMod, Nat.reduceLT, Nat.reduceLeDiff, Nat.reduceEqDiff, Nat.reduceBEq, Nat.reduceBNe, Nat.reduceGT, Int.reduceAdd, Int.reduceSub, Int.reduceMul, Int.reduceNeg, Int.reduceLT, Int.reduceLE, Int.reduceEq, Int.reduceNe, Int.reduceBEq, Int.reduceBNe, Int.reduceToNat, Int.reduceGT, Int.reduceGE, ↓reduceIte, decide_true, decide_false, eq_self, Nat.mul_one, Nat.zero_mul, Nat.one_mul, Int.le_refl, Nat.le_refl, Int.cast_ofNat_Int, hlt, hc1, hk8, hk7, Vial.cs, Span.cs, gA, gC, hT, hT', hb, List.length_map]
            refine hQ1 _ _ ?_
            simp (decide := true) (maxSteps := 4000000) only [go_sem, Nat.reduceAdd, Nat.reduceSub, Nat.reduceMul, Nat.reduceDiv, Nat.reduceMod, Nat.reduceLT, Nat.reduceLeDiff, Nat.reduceEqDiff, Nat.reduceBEq, Nat.reduceBNe, Nat.reduceGT, Int.reduceAdd, Int.reduceSub, Int.reduceMul, Int.reduceNeg, Int.reduceLT, Int.reduceLE, Int.reduceEq, Int.reduceNe, Int.reduceBEq, Int.reduceBNe, Int.reduceToNat, Int.reduceGT, Int.reduceGE, ↓reduceIte, decide_true, decide_false, eq_self, Nat.mul_one, Nat.zero_mul, Nat.one_mul, Int.le_refl, Nat.le_refl, Int.cast_ofNat_Int, hst, Vial.cs]
          | false =>
            simp (decide := true) (maxSteps := 4000000) only [go_sem, Nat.reduceAdd, Nat.reduceSub, Nat.reduceMul, Nat.reduceDiv, Nat.reduceMod, Nat.reduceLT, Nat.reduceLeDiff, Nat.reduceEqDiff, Nat.reduceBEq, Nat.reduceBNe, Nat.reduceGT, Int.reduceAdd, Int.reduceSub, Int.reduceMul, Int.reduceNeg, Int.reduceLT, Int.reduceLE, Int.reduceEq, Int.reduceNe, Int.reduceBEq, Int.reduceBNe, Int.reduceToNat, Int.reduceGT, Int.reduceGE, ↓reduceIte, decide_true, decide_false, eq_self, Nat.mul_one, Nat.zero_mul, Nat.one_mul, Int.le_refl, Nat.le_refl, Int.cast_ofNat_Int, hlt, hc1, hk8, hk7, Vial.cs, Span.cs, gA, gC, hT, hT', hb, List.length_map]
            refine hI1 _ ⟨k + 1, by omega, by rw [hnx]; exact hb⟩ (by simp only; omega) ?_
            simp (decide := true) (maxSteps := 4000000) only [go_sem, Nat.reduceAdd, Nat.reduceSub, Nat.reduceMul, Nat.reduceDiv, Nat.reduceMod, Nat.reduceLT, Nat.reduceLeDiff, Nat.reduceEqDiff, Nat.reduceBEq, Nat.reduceBNe, Nat.reduceGT, Int.reduceAdd, Int.reduceSub, Int.reduceMul, Int.reduceNeg, Int.reduceLT, Int.reduceLE, Int.reduceEq, Int.reduceNe, Int.reduceBEq, Int.reduceBNe, Int.reduceToNat, Int.reduceGT, Int.reduceGE, ↓reduceIte, decide_true, decide_false, eq_self, Nat.mul_one, Nat.zero_mul, Nat.one_mul, Int.le_refl, Nat.le_refl, Int.cast_ofNat_Int, hc1, Vial.cs, Span.cs, hnx, List.length_map]
        · have hkl : k = l.length := by omega
          subst hkl
          simp (decide := true) (maxSteps := 4000000) only [go_sem, Nat.reduceAdd, Nat.reduceSub, Nat.reduceMul, Nat.reduceDiv, Nat.reduceMod, Nat.reduceLT, Nat.reduceLeDiff, Nat.reduceEqDiff, Nat.reduceBEq, Nat.reduceBNe, Nat.reduceGT, Int.reduceAdd, Int.reduceSub, Int.reduceMul, Int.reduceNeg, Int.reduceLT, Int.reduceLE, Int.reduceEq, Int.reduceNe, Int.reduceBEq, Int.reduceBNe, Int.reduceToNat, Int.reduceGT, Int.reduceGE, ↓reduceIte, decide_true, decide_false, eq_self, Nat.mul_one, Nat.zero_mul, Nat.one_mul, Int.le_refl, Nat.le_refl, Int.cast_ofNat_Int, hlt]
          refine hQ1 _ _ ?_
          simp (decide := true) (maxSteps := 4000000) only [go_sem, Nat.reduceAdd, Nat.reduceSub, Nat.reduceMul, Nat.reduceDiv, Nat.reduceMod, Nat.reduceLT, Nat.reduceLeDiff, Nat.reduceEqDiff, Nat.reduceBEq, Nat.reduceBNe, Nat.reduceGT, Int.reduceAdd, Int.reduceSub, Int.reduceMul, Int.reduceNeg, Int.reduceLT, Int.reduceLE, Int.reduceEq, Int.reduceNe, Int.reduceBEq, Int.reduceBNe, Int.reduceToNat, Int.reduceGT, Int.reduceGE, ↓reduceIte, decide_true, decide_false, eq_self, Nat.mul_one, Nat.zero_mul, Nat.one_mul, Int.le_refl, Nat.le_refl, Int.cast_ofNat_Int, Vial.cs]
  · refine pcalls_by Try.mixes spL5_ok (fn := Try.f23) Try.func23 rfl (by kernel_rfl) (by show 2 ≤ _; decide) ?_
    obtain ⟨u, ho⟩ := openedT_no hk
    have hk' : (asked v l != 0) = true := by simpa using hk
    rcases hs with ⟨rfl, rfl⟩ | ⟨full, rfl⟩ <;> simp (decide := true) (maxSteps := 4000000) only [go_sem, Nat.reduceAdd, Nat.reduceSub, Nat.reduceMul, Nat.reduceDiv, Nat.reduceMod, Nat.reduceLT, Nat.reduceLeDiff, Nat.reduceEqDiff, Nat.reduceBEq, Nat.reduceBNe, Nat.reduceGT, Int.reduceAdd, Int.reduceSub, Int.reduceMul, Int.reduceNeg, Int.reduceLT, Int.reduceLE, Int.reduceEq, Int.reduceNe, Int.reduceBEq, Int.reduceBNe, Int.reduceToNat, Int.reduceGT, Int.reduceGE, ↓reduceIte, decide_true, decide_false, Try.f23, Vial.t, Vial.cs, unRds, hl, ho, hk, hk']
end Go.Proofs.Ytgofljmnlfnlnaa

/- Part Lh. -/
namespace Go.Oc
open Go Go.Pm
/-- A vial that is offered. -/
structure Of where
  v : Vial
  i : Int
  p : Int
  deriving DecidableEq
def Of.cs (x : Of) : List TV := [.int .i64 x.v.marks, .int .i64 x.v.l0, .int .i64 x.v.l1, .int .i64 x.v.v0, .int .i64 x.v.v1, .int .i64 x.v.z0, .int .i64 x.v.z1, .int .i64 x.v.wr, .int .i64 x.i, .int .i64 x.p]
def unOfs : List TV → Option (List Of)
  | [] => some []
  | .int .i64 a :: .int .i64 b :: .int .i64 c :: .int .i64 d :: .int .i64 e :: .int .i64 f :: .int .i64 g :: .int .i64 h :: .int .i64 i :: .int .i64 p :: r => (unOfs r).map (⟨⟨a, b, c, d, e, f, g, h⟩, i, p⟩ :: ·)
  | _ => none
theorem unOfs_eq : ∀ l : List Of, unOfs (l.flatMap Of.cs) = some l
  | [] => rfl
  | x :: l => by simp [Of.cs, unOfs, unOfs_eq l]
theorem unOfs_some : ∀ {cs : List TV} {l : List Of}, unOfs cs = some l → cs = l.flatMap Of.cs := by
  intro cs
  induction cs using unOfs.induct with
  | case1 => intro l h; simp [unOfs] at h; subst h; rfl
  | case2 a b c d e f g h i p r ih =>
    intro l hh
    simp only [unOfs, Option.map_eq_some_iff] at hh
    obtain ⟨l', h1, rfl⟩ := hh
    rw [ih h1]; rfl
  | case3 r h1 h2 =>
    intro l h
    unfold unOfs at h
    split at h
    · exact absurd rfl h1
    · exact absurd rfl (h2 _ _ _ _ _ _ _ _ _ _ _)
    · cases h
attribute [go_sem] unOfs_eq
def bestStep (b : Option Of) (x : Of) : Option Of := match b with | none => some x | some y => if x.p < y.p then some x else some y
def bestTo (l : List Of) (k : Nat) : Option Of := (l.take k).foldl bestStep none
def bestOf (l : List Of) : Option Of := l.foldl bestStep none
def Of.zero : Of := ⟨⟨0, 0, 0, 0, 0, 0, 0, 0⟩, 0, 0⟩
theorem bestTo_succ {l : List Of} {k : Nat} {x : Of} (h : l[k]? = some x) : bestTo l (k + 1) = bestStep (bestTo l k) x := by
  unfold bestTo; rw [take_snoc h, List.foldl_append]; rfl
theorem bestTo_some {l : List Of} : ∀ {k : Nat}, 0 < k → k ≤ l.length → ∃ y, bestTo l k = some y
  | k + 1, _, h => by
    rw [bestTo_succ (List.getElem?_eq_getElem (show k < l.length by omega))]
    unfold bestStep
    split
    · exact ⟨_, rfl⟩
    · split <;> exact ⟨_, rfl⟩
/-- Is a stock right, as far as it was looked at? -/
def okBase (n np : Nat) (rg fl : Int) : Bool := inB n 1 10 && ((np : Int) == (n : Int)) && inB rg 0 100000 && inB fl 0 100000
def okAt (st : List Vial) (pr : List Int) (i : Nat) : Bool := match st[i]?, pr[i]? with | some v, some p => v.ok && inB p 0 1000 | _, _ => false
def okTo (st : List Vial) (pr : List Int) (rg fl : Int) (k : Nat) : Bool := okBase st.length pr.length rg fl && (List.range k).all (okAt st pr)
theorem okTo_succ (st : List Vial) (pr : List Int) (rg fl : Int) (k : Nat) : okTo st pr rg fl (k + 1) = (okTo st pr rg fl k && okAt st pr k) := by
  unfold okTo; rw [List.range_succ, List.all_append]; simp [Bool.and_assoc]
def offAt (st : List Vial) (pr : List Int) (rg fl : Int) (i : Nat) : Option Of := match st[i]?, pr[i]? with | some v, some p => if doesP v rg fl then some ⟨v, i, p⟩ else none | _, _ => none
def offTo (st : List Vial) (pr : List Int) (rg fl : Int) (k : Nat) : List Of := (List.range k).filterMap (offAt st pr rg fl)
theorem offTo_t {st : List Vial} {pr : List Int} {rg fl : Int} {k : Nat} {x : Of} (h : offAt st pr rg fl k = some x) : offTo st pr rg fl (k + 1) = offTo st pr rg fl k ++ [x] := by
  simp [offTo, List.range_succ, h]
theorem offTo_f {st : List Vial} {pr : List Int} {rg fl : Int} {k : Nat} (h : offAt st pr rg fl k = none) : offTo st pr rg fl (k + 1) = offTo st pr rg fl k := by
  simp [offTo, List.range_succ, h]
theorem offTo_le (st : List Vial) (pr : List Int) (rg fl : Int) (k : Nat) : (offTo st pr rg fl k).length ≤ k := by
  have := List.length_filterMap_le (offAt st pr rg fl) (List.range k)
  simpa [offTo] using this
/-- What Choose hands back. -/
def chooseP (st : List Vial) (pr : List Int) (rg fl : Int) : Int × Int :=
  if okTo st pr rg fl st.length then (match bestOf (offTo st pr rg fl st.length) with | some x => (x.i, 0) | none => (0, 4)) else (0, 34)
def ic (x : Int) : List TV := [.int .i64 x]
theorem ic_ints : ∀ l : List Int, l.flatMap ic = ints l
  | [] => rfl
  | x :: l => by rw [List.flatMap_cons, ic_ints l]; rfl
def unVials : List TV → Option (List Vial)
  | [] => some []
  | .int .i64 a :: .int .i64 b :: .int .i64 c :: .int .i64 d :: .int .i64 e :: .int .i64 f :: .int .i64 g :: .int .i64 h :: r => (unVials r).map (⟨a, b, c, d, e, f, g, h⟩ :: ·)
  | _ => none
theorem unVials_eq : ∀ l : List Vial, unVials (l.flatMap Vial.cs) = some l
  | [] => rfl
  | x :: l => by simp [Vial.cs, unVials, unVials_eq l]
theorem unVials_some : ∀ {cs : List TV} {l : List Vial}, unVials cs = some l → cs = l.flatMap Vial.cs := by
  intro cs
  induction cs using unVials.induct with
  | case1 => intro l h; simp [unVials] at h; subst h; rfl
  | case2 a b c d e f g h r ih =>
    intro l hh
    simp only [unVials, Option.map_eq_some_iff] at hh
    obtain ⟨l', h1, rfl⟩ := hh
    rw [ih h1]; rfl
  | case3 r h1 h2 =>
    intro l h
    unfold unVials at h
    split at h
    · exact absurd rfl h1
    · exact absurd rfl (h2 _ _ _ _ _ _ _ _ _)
    · cases h
attribute [go_sem] unVials_eq
end Go.Oc
namespace Go.Proofs.Ytgofljmnlfnlnaa
open Go.RowKit Go.Pm Go.Oc
set_option maxRecDepth 100000
set_option linter.unusedVariables false
set_option maxHeartbeats 4000000

theorem lPrice_c (x : Of) : PCalls Try.prog 66 [.agg x.cs] (.int .i64 x.p) := by
  refine pcalls_by Try.mixes noSpec_ok (fn := Try.f66) Try.func66 rfl (by kernel_rfl) (by show 1 ≤ _; decide) ?_
  simp (decide := true) (maxSteps := 4000000) only [go_sem, Nat.reduceAdd, Nat.reduceSub, Nat.reduceMul, Nat.reduceDiv, Nat.reduceMod, Nat.reduceLT, Nat.reduceLeDiff, Nat.reduceEqDiff, Nat.reduceBEq, Nat.reduceBNe, Nat.reduceGT, Int.reduceAdd, Int.reduceSub, Int.reduceMul, Int.reduceNeg, Int.reduceLT, Int.reduceLE, Int.reduceEq, Int.reduceNe, Int.reduceBEq, Int.reduceBNe, Int.reduceToNat, Int.reduceGT, Int.reduceGE, ↓reduceIte, decide_true, decide_false, Try.f66, Of.cs]
noncomputable def glPrice : List TV → Option TV
  | [.agg [.int .i64 a, .int .i64 b, .int .i64 c, .int .i64 d, .int .i64 e, .int .i64 f, .int .i64 g, .int .i64 h, .int .i64 i, .int .i64 p]] => some (.int .i64 p)
  | _ => none
theorem glPrice_ok : ∀ xs r, glPrice xs = some r → PCalls Try.prog 66 xs r := by
  intro xs r h
  unfold glPrice at h
  split at h
  · cases h; exact lPrice_c ⟨⟨_, _, _, _, _, _, _, _⟩, _, _⟩
  · cases h
attribute [go_sem] glPrice
noncomputable def spH1 : Pm.Spec := spD3.one 66 glPrice
@[go_sem] theorem spH1_p (f : FuncId) (xs : List TV) : spH1.p f xs = Pm.Spec.p (spD3.one 66 glPrice) f xs := rfl
@[go_sem] theorem spH1_h (f : FuncId) (ps : List PV) (hl : List PO) : spH1.h f ps hl = Pm.Spec.h (spD3.one 66 glPrice) f ps hl := rfl
@[go_sem] theorem spH1_fz (f : FuncId) : spH1.fz f = Pm.Spec.fz (spD3.one 66 glPrice) f := rfl
@[go_sem] theorem spH1_fr (f : FuncId) : spH1.fr f = Pm.Spec.fr (spD3.one 66 glPrice) f := rfl
@[go_sem] theorem spH1_mu (t : TypeId) : spH1.mu t = Pm.Spec.mu (spD3.one 66 glPrice) t := rfl
theorem spH1_ok : SpecOk Try.prog spH1 := Spec.one_ok glPrice_ok spD3_ok
theorem lCheapest_c (l : List Of) (full : Bool) (hl : l.length ≤ 1000) : PCalls Try.prog 65 [.fn 66 [] [], .sl (l.flatMap Of.cs) l.length full] (.tup [.agg ((bestOf l).getD Of.zero).cs, .bool (decide ((l.length : Int) > 0))]) := by
  refine pcalls_by Try.mixes spH1_ok (fn := Try.f65) Try.func65 rfl (by kernel_rfl) (by show 2 ≤ _; decide) ?_
  simp (decide := true) (maxSteps := 4000000) only [go_sem, Nat.reduceAdd, Nat.reduceSub, Nat.reduceMul, Nat.reduceDiv, Nat.reduceMod, Nat.reduceLT, Nat.reduceLeDiff, Nat.reduceEqDiff, Nat.reduceBEq, Nat.reduceBNe, Nat.reduceGT, Int.reduceAdd, Int.reduceSub, Int.reduceMul, Int.reduceNeg, Int.reduceLT, Int.reduceLE, Int.reduceEq, Int.reduceNe, Int.reduceBEq, Int.reduceBNe, Int.reduceToNat, Int.reduceGT, Int.reduceGE, ↓reduceIte, decide_true, decide_false, Try.f65]
  refine pwpC_loopQ (A := { k : Nat // k ≤ l.length }) (fun k => { env := [(11, .t (.int .i64 k.1)), (10, .t (.int .i64 l.length)), (9, .t (.sl (l.flatMap Of.cs) l.length full)), (0, .t (.fn 66 [] [])), (1, .t (.sl (l.flatMap Of.cs) l.length full)), (4, .ptr 0 0), (6, .ptr 1 0)], heap := [.box (Of.zero.cs.map .t), .box (((bestTo l k.1).getD Of.zero).cs.map .t)] }) (fun k => l.length - k.1) ⟨0, by omega⟩ ?_ (fun k => by rfl) fun Q1 hQ1 ⟨k, hk⟩ I1 hI1 => ?_
  · simp (decide := true) (maxSteps := 4000000) only [go_sem, Nat.reduceAdd, Nat.reduceSub, Nat.reduceMul, Nat.reduceDiv, Nat.reduceMod, Nat.reduceLT, Nat.reduceLeDiff, Nat.reduceEqDiff, Nat.reduceBEq, Nat.reduceBNe, Nat.reduceGT, Int.reduceAdd, Int.reduceSub, Int.reduceMul, Int.reduceNeg, Int.reduceLT, Int.reduceLE, Int.reduceEq, Int.reduceNe, Int.reduceBEq, Int.reduceBNe, Int.reduceToNat, Int.reduceGT, Int.reduceGE, ↓reduceIte, decide_true, decide_false, Of.cs, Of.zero, bestTo]
  · by_cases hlt : (k : Int) < l.length
    · obtain ⟨x, hx⟩ := get_lt hlt
      have hd := flat_at Of.cs (n := 10) (fun _ => rfl) hx
      have hc1 : IntKind.i64.wrap (k + 1) = ((k + 1 : Nat) : Int) := by rw [wrap_in (by omega) (by omega)]; omega
      have hs := bestTo_succ hx
      rcases Nat.eq_zero_or_pos k with h0 | h0
      · subst h0
        have e0 : (((0 : Nat) : Int) == 0) = true := rfl
        have hb0 : bestTo l 0 = none := rfl
        rw [hb0] at hs
        simp (decide := true) (maxSteps := 4000000) only [go_sem, Nat.reduceAdd, Nat.reduceSub, Nat.reduceMul, Nat.reduceDiv, Nat.reduceMod, Nat.reduceLT, Nat.reduceLeDiff, Nat.reduceEqDiff, Nat.reduceBEq, Nat.reduceBNe, Nat.reduceGT, Int.reduceAdd, Int.reduceSub, Int.reduceMul, Int.reduceNeg, Int.reduceLT, Int.reduceLE, Int.reduceEq, Int.reduceNe, Int.reduceBEq, Int.reduceBNe, Int.reduceToNat, Int.reduceGT, Int.reduceGE, ↓reduceIte, decide_true, decide_false, hlt, hd, Of.cs, Of.zero, e0]
        refine hI1 _ ⟨1, by omega⟩ (by simp only; omega) ?_
        simp (decide := true) (maxSteps := 4000000) only [go_sem, Nat.reduceAdd, Nat.reduceSub, Nat.reduceMul, Nat.reduceDiv, Nat.reduceMod, Nat.reduceLT, Nat.reduceLeDiff, Nat.reduceEqDiff, Nat.reduceBEq, Nat.reduceBNe, Nat.reduceGT, Int.reduceAdd, Int.reduceSub, Int.reduceMul, Int.reduceNeg, Int.reduceLT, Int.reduceLE, Int.reduceEq, Int.reduceNe, Int.reduceBEq, Int.reduceBNe, Int.reduceToNat, Int.reduceGT, Int.reduceGE, ↓reduceIte, decide_true, decide_false, hc1, hs, bestStep, Of.cs, Of.zero]
      · obtain ⟨y, hy⟩ := bestTo_some h0 hk
        have e0 : ((k : Int) == 0) = false := by simp; omega
        rw [hy] at hs
        by_cases hp : x.p < y.p
        · simp (decide := true) (maxSteps := 4000000) only [go_sem, Nat.reduceAdd, Nat.reduceSub, Nat.reduceMul, Nat.reduceDiv, Nat.reduceMod, Nat.reduceLT, Nat.reduceLeDiff, Nat.reduceEqDiff, Nat.reduceBEq, Nat.reduceBNe, Nat.reduceGT, Int.reduceAdd, Int.reduceSub, Int.reduceMul, Int.reduceNeg, Int.reduceLT, Int.reduceLE, Int.reduceEq, Int.reduceNe, Int.reduceBEq, Int.reduceBNe, Int.reduceToNat, Int.reduceGT, Int.reduceGE, ↓reduceIte, decide_true, decide_false, hlt, hd, Of.cs, Of.zero, e0, hy, hp]
          refine hI1 _ ⟨k + 1, by omega⟩ (by simp only; omega) ?_
          simp (decide := true) (maxSteps := 4000000) only [go_sem, Nat.reduceAdd, Nat.reduceSub, Nat.reduceMul, Nat.reduceDiv, Nat.reduceMod, Nat.reduceLT, Nat.reduceLeDiff, Nat.reduceEqDiff, Nat.reduceBEq, Nat.reduceBNe, Nat.reduceGT, Int.reduceAdd, Int.reduceSub, Int.reduceMul, Int.reduceNeg, Int.reduceLT, Int.reduceLE, Int.reduceEq, Int.reduceNe, Int.reduceBEq, Int.reduceBNe, Int.reduceToNat, Int.reduceGT, Int.reduceGE, ↓reduceIte, decide_true, decide_false, hc1, hs, bestStep, hp, Of.cs, Of.zero]
        · simp (decide := true) (maxSteps := 4000000) only [go_sem, Nat.reduceAdd, Nat.reduceSub, Nat.reduceMul, Nat.reduceDiv, Nat.reduceMod, Nat.reduceLT, Nat.reduceLeDiff, Nat.reduceEqDiff, Nat.reduceBEq, Nat.reduceBNe, Nat.reduceGT, Int.reduceAdd, Int.reduceSub, Int.reduceMul, Int.reduceNeg, Int.reduceLT, Int.reduceLE, Int.reduceEq, Int.reduceNe, Int.reduceBEq, Int.reduceBNe, Int.reduceToNat, Int.reduceGT, Int.reduceGE, ↓reduceIte, decide_true, decide_false, hlt, hd, Of.cs, Of.zero, e0, hy, hp]
          refine hI1 _ ⟨k + 1, by omega⟩ (by simp only; omega) ?_
          simp (decide := true) (maxSteps := 4000000) only [go_sem, Nat.reduceAdd, Nat.reduceSub, Nat.reduceMul, Nat.reduceDiv, Nat.reduceMod, Nat.reduceLT, Nat.reduceLeDiff, Nat.reduceEqDiff, Nat.reduceBEq, Nat.reduceBNe, Nat.reduceGT, Int.reduceAdd, Int.reduceSub, Int.reduceMul, Int.reduceNeg, Int.reduceLT, Int.reduceLE, Int.reduceEq, Int.reduceNe, Int.reduceBEq, Int.reduceBNe, Int.reduceToNat, Int.reduceGT, Int.reduceGE, ↓reduceIte, decide_true, decide_false, hc1, hs, bestStep, hp, Of.cs, Of.zero, hy]
    · have hkl : k = l.length := by omega
      subst hkl
      have hbe : bestTo l l.length = bestOf l := by unfold bestTo; rw [List.take_length]; rfl
      simp (decide := true) (maxSteps := 4000000) only [go_sem, Nat.reduceAdd, Nat.reduceSub, Nat.reduceMul, Nat.reduceDiv, Nat.reduceMod, Nat.reduceLT, Nat.reduceLeDiff, Nat.reduceEqDiff, Nat.reduceBEq, Nat.reduceBNe, Nat.reduceGT, Int.reduceAdd, Int.reduceSub, Int.reduceMul, Int.reduceNeg, Int.reduceLT, Int.reduceLE, Int.reduceEq, Int.reduceNe, Int.reduceBEq, Int.reduceBNe, Int.reduceToNat, Int.reduceGT, Int.reduceGE, ↓reduceIte, decide_true, decide_false, hlt]
      refine hQ1 _ _ ?_
      simp (decide := true) (maxSteps := 4000000) only [go_sem, Nat.reduceAdd, Nat.reduceSub, Nat.reduceMul, Nat.reduceDiv, Nat.reduceMod, Nat.reduceLT, Nat.reduceLeDiff, Nat.reduceEqDiff, Nat.reduceBEq, Nat.reduceBNe, Nat.reduceGT, Int.reduceAdd, Int.reduceSub, Int.reduceMul, Int.reduceNeg, Int.reduceLT, Int.reduceLE, Int.reduceEq, Int.reduceNe, Int.reduceBEq, Int.reduceBNe, Int.reduceToNat, Int.reduceGT, Int.reduceGE, ↓reduceIte, decide_true, decide_false, hbe, Of.cs, Of.zero]
theorem lCheapest_n : PCalls Try.prog 65 [.fn 66 [] [], .nilSl] (.tup [.agg ((bestOf []).getD Of.zero).cs, .bool false]) := by
  refine pcalls_by Try.mixes spH1_ok (fn := Try.f65) Try.func65 rfl (by kernel_rfl) (by show 2 ≤ _; decide) ?_
  simp (decide := true) (maxSteps := 4000000) only [go_sem, Nat.reduceAdd, Nat.reduceSub, Nat.reduceMul, Nat.reduceDiv, Nat.reduceMod, Nat.reduceLT, Nat.reduceLeDiff, Nat.reduceEqDiff, Nat.reduceBEq, Nat.reduceBNe, Nat.reduceGT, Int.reduceAdd, Int.reduceSub, Int.reduceMul, Int.reduceNeg, Int.reduceLT, Int.reduceLE, Int.reduceEq, Int.reduceNe, Int.reduceBEq, Int.reduceBNe, Int.reduceToNat, Int.reduceGT, Int.reduceGE, ↓reduceIte, decide_true, decide_false, Try.f65]
  refine pwpC_loopQ (A := Unit) (fun k => { env := [(11, .t (.int .i64 0)), (10, .t (.int .i64 0)), (1, .t .nilSl), (4, .ptr 0 0), (6, .ptr 1 0)], heap := [.box (Of.zero.cs.map .t), .box (Of.zero.cs.map .t)] }) (fun k => 0) () ?_ (fun k => by rfl) fun Q1 hQ1 k I1 hI1 => ?_
  · simp (decide := true) (maxSteps := 4000000) only [go_sem, Nat.reduceAdd, Nat.reduceSub, Nat.reduceMul, Nat.reduceDiv, Nat.reduceMod, Nat.reduceLT, Nat.reduceLeDiff, Nat.reduceEqDiff, Nat.reduceBEq, Nat.reduceBNe, Nat.reduceGT, Int.reduceAdd, Int.reduceSub, Int.reduceMul, Int.reduceNeg, Int.reduceLT, Int.reduceLE, Int.reduceEq, Int.reduceNe, Int.reduceBEq, Int.reduceBNe, Int.reduceToNat, Int.reduceGT, Int.reduceGE, ↓reduceIte, decide_true, decide_false, Of.cs, Of.zero]
  · simp (decide := true) (maxSteps := 4000000) only [go_sem, Nat.reduceAdd, Nat.reduceSub, Nat.reduceMul, Nat.reduceDiv, Nat.reduceMod, Nat.reduceLT, Nat.reduceLeDiff, Nat.reduceEqDiff, Nat.reduceBEq, Nat.reduceBNe, Nat.reduceGT, Int.reduceAdd, Int.reduceSub, Int.reduceMul, Int.reduceNeg, Int.reduceLT, Int.reduceLE, Int.reduceEq, Int.reduceNe, Int.reduceBEq, Int.reduceBNe, Int.reduceToNat, Int.reduceGT, Int.reduceGE, ↓reduceIte, decide_true, decide_false]
    refine hQ1 _ _ ?_
    simp (decide := true) (maxSteps := 4000000) only [go_sem, Nat.reduceAdd, Nat.reduceSub, Nat.reduceMul, Nat.reduceDiv, Nat.reduceMod, Nat.reduceLT, Nat.reduceLeDiff, Nat.reduceEqDiff, Nat.reduceBEq, Nat.reduceBNe, Nat.reduceGT, Int.reduceAdd, Int.reduceSub, Int.reduceMul, Int.reduceNeg, Int.reduceLT, Int.reduceLE, Int.reduceEq, Int.reduceNe, Int.reduceBEq, Int.reduceBNe, Int.reduceToNat, Int.reduceGT, Int.reduceGE, ↓reduceIte, decide_true, decide_false, Of.cs, Of.zero, bestOf]
end Go.Proofs.Ytgofljmnlfnlnaa

/- Part Li. -/
namespace Go.Proofs.Ytgofljmnlfnlnaa
open Go.RowKit Go.Pm Go.Oc
set_option maxRecDepth 100000
set_option linter.unusedVariables false
set_option maxHeartbeats 4000000

theorem lCheapest_d {l : List Of} {s : TV} (hs : IsRow Of.cs s l) (hl : l.length ≤ 1000) : PCalls Try.prog 65 [.fn 66 [] [], s] (.tup [.agg ((bestOf l).getD Of.zero).cs, .bool (decide ((l.length : Int) > 0))]) := by
  rcases hs with ⟨rfl, rfl⟩ | ⟨full, rfl⟩
  · exact lCheapest_n
  · exact lCheapest_c l full hl
noncomputable def glCheapest : List TV → Option TV
  | [.fn 66 [] [], s] => match rowL unOfs s with
    | some l => if l.length ≤ 1000 then some (.tup [.agg ((bestOf l).getD Of.zero).cs, .bool (decide ((l.length : Int) > 0))]) else none
    | none => none
  | _ => none
theorem glCheapest_ok : ∀ xs r, glCheapest xs = some r → PCalls Try.prog 65 xs r := by
  intro xs r h
  unfold glCheapest at h
  split at h
  · split at h
    · rename_i l hl
      have hl := rowL_some (un := unOfs) rfl (@unOfs_some) hl
      split at h
      · rename_i hc; cases h; exact lCheapest_d hl hc
      · cases h
    · cases h
  · cases h
attribute [go_sem] glCheapest
noncomputable def spI1 : Pm.Spec := (spD3.one 66 glPrice).one 65 glCheapest
@[go_sem] theorem spI1_p (f : FuncId) (xs : List TV) : spI1.p f xs = Pm.Spec.p ((spD3.one 66 glPrice).one 65 glCheapest) f xs := rfl
@[go_sem] theorem spI1_h (f : FuncId) (ps : List PV) (hl : List PO) : spI1.h f ps hl = Pm.Spec.h ((spD3.one 66 glPrice).one 65 glCheapest) f ps hl := rfl
@[go_sem] theorem spI1_fz (f : FuncId) : spI1.fz f = Pm.Spec.fz ((spD3.one 66 glPrice).one 65 glCheapest) f := rfl
@[go_sem] theorem spI1_fr (f : FuncId) : spI1.fr f = Pm.Spec.fr ((spD3.one 66 glPrice).one 65 glCheapest) f := rfl
@[go_sem] theorem spI1_mu (t : TypeId) : spI1.mu t = Pm.Spec.mu ((spD3.one 66 glPrice).one 65 glCheapest) t := rfl
theorem spI1_ok : SpecOk Try.prog spI1 := Spec.one_ok glCheapest_ok (Spec.one_ok glPrice_ok spD3_ok)

theorem okTo_ok {st : List Vial} {pr : List Int} {rg fl : Int} {n k : Nat} {x : Vial} (h : okTo st pr rg fl n = true) (hk : k < n) (hx : st[k]? = some x) : x.ok = true := by
  simp only [okTo, Bool.and_eq_true, List.all_eq_true, List.mem_range] at h
  have := h.2 k hk
  unfold okAt at this
  rw [hx] at this
  split at this
  · rename_i h1 _; cases h1; simp only [Bool.and_eq_true] at this; exact this.1
  · cases this
theorem best_some {l : List Of} (h : 0 < l.length) : ∃ y, bestOf l = some y := by
  have := bestTo_some (k := l.length) h (Nat.le_refl _)
  rwa [show bestTo l l.length = bestOf l by unfold bestTo; rw [List.take_length]; rfl] at this

theorem lChoose_c {st : List Vial} {pr : List Int} {s t : TV} (hs : IsRow Vial.cs s st) (ht : IsRow ic t pr) (rg fl : Int) (hl : st.length ≤ 2199023255552) : PCalls Try.prog 30 [s, t, .agg [.int .i64 rg, .int .i64 fl]] (.tup [.int .i64 (chooseP st pr rg fl).1, .int .i64 (chooseP st pr rg fl).2]) := by
  refine pcalls_by Try.mixes spI1_ok (fn := Try.f30) Try.func30 rfl (by kernel_rfl) (by show 3 ≤ _; decide) ?_
  cases hb : okBase st.length pr.length rg fl with
  | false =>
    have ho : ∀ k, okTo st pr rg fl k = false := fun k => by unfold okTo; rw [hb]; rfl
    have hr : chooseP st pr rg fl = (0, 34) := by unfold chooseP; rw [ho]; rfl
    rw [hr]
    unfold okBase at hb
    rcases hs with ⟨rfl, rfl⟩ | ⟨full, rfl⟩
    · rcases ht with ⟨rfl, rfl⟩ | ⟨full', rfl⟩
      all_goals
        simp (decide := true) (maxSteps := 4000000) only [go_sem, Nat.reduceAdd, Nat.reduceSub, Nat.reduceMul, Nat.reduceDiv, Nat.reduceMod, Nat.reduceLT, Nat.reduceLeDiff, Nat.reduceEqDiff, Nat.reduceBEq, Nat.reduceBNe, Nat.reduceGT, Int.reduceAdd, Int.reduceSub, Int.reduceMul, Int.reduceNeg, Int.reduceLT, Int.reduceLE, Int.reduceEq, Int.reduceNe, Int.reduceBEq, Int.reduceBNe, Int.reduceToNat, Int.reduceGT, Int.reduceGE, ↓reduceIte, decide_true, decide_false, Try.f30]
        refine pwpC_loopU (A := Unit) [0, 1, 5, 38] (fun _ => [(39, .t (.int .i64 0)), (8, .t (.bool false))]) (fun _ => []) (fun _ => 0) () (by decide) (fun _ => by rfl) ?_ fun Q1 hQ1 k I1 hI1 => ?_
        · simp (decide := true) (maxSteps := 4000000) only [go_sem, Nat.reduceAdd, Nat.reduceSub, Nat.reduceMul, Nat.reduceDiv, Nat.reduceMod, Nat.reduceLT, Nat.reduceLeDiff, Nat.reduceEqDiff, Nat.reduceBEq, Nat.reduceBNe, Nat.reduceGT, Int.reduceAdd, Int.reduceSub, Int.reduceMul, Int.reduceNeg, Int.reduceLT, Int.reduceLE, Int.reduceEq, Int.reduceNe, Int.reduceBEq, Int.reduceBNe, Int.reduceToNat, Int.reduceGT, Int.reduceGE, ↓reduceIte, decide_true, decide_false, inB]
        · simp (decide := true) (maxSteps := 4000000) only [go_sem, Nat.reduceAdd, Nat.reduceSub, Nat.reduceMul, Nat.reduceDiv, Nat.reduceMod, Nat.reduceLT, Nat.reduceLeDiff, Nat.reduceEqDiff, Nat.reduceBEq, Nat.reduceBNe, Nat.reduceGT, Int.reduceAdd, Int.reduceSub, Int.reduceMul, Int.reduceNeg, Int.reduceLT, Int.reduceLE, Int.reduceEq, Int.reduceNe, Int.reduceBEq, Int.reduceBNe, Int.reduceToNat, Int.reduceGT, Int.reduceGE, ↓reduceIte, decide_true, decide_false]
          refine hQ1 _ _ ?_
          simp (decide := true) (maxSteps := 4000000) only [go_sem, Nat.reduceAdd, Nat.reduceSub, Nat.reduceMul, Nat.reduceDiv, Nat.reduceMod, Nat.reduceLT, Nat.reduceLeDiff, Nat.reduceEqDiff, Nat.reduceBEq, Nat.reduceBNe, Nat.reduceGT, Int.reduceAdd, Int.reduceSub, Int.reduceMul, Int.reduceNeg, Int.reduceLT, Int.reduceLE, Int.reduceEq, Int.reduceNe, Int.reduceBEq, Int.reduceBNe, Int.reduceToNat, Int.reduceGT, Int.reduceGE, ↓reduceIte, decide_true, decide_false]
    · rcases ht with ⟨rfl, rfl⟩ | ⟨full', rfl⟩
      all_goals
        simp (decide := true) (maxSteps := 4000000) only [go_sem, Nat.reduceAdd, Nat.reduceSub, Nat.reduceMul, Nat.reduceDiv, Nat.reduceMod, Nat.reduceLT, Nat.reduceLeDiff, Nat.reduceEqDiff, Nat.reduceBEq, Nat.reduceBNe, Nat.reduceGT, Int.reduceAdd, Int.reduceSub, Int.reduceMul, Int.reduceNeg, Int.reduceLT, Int.reduceLE, Int.reduceEq, Int.reduceNe, Int.reduceBEq, Int.reduceBNe, Int.reduceToNat, Int.reduceGT, Int.reduceGE, ↓reduceIte, decide_true, decide_false, Try.f30]
        refine pwpC_loopU (A := { k : Nat // k ≤ st.length }) [0, 1, 5, 38] (fun k => [(39, .t (.int .i64 k.1)), (8, .t (.bool false))]) (fun _ => []) (fun k => st.length - k.1) ⟨0, by omega⟩ (by decide) (fun _ => by rfl) ?_ fun Q1 hQ1 ⟨k, hk⟩ I1 hI1 => ?_
        · simp (decide := true) (maxSteps := 4000000) only [go_sem, Nat.reduceAdd, Nat.reduceSub, Nat.reduceMul, Nat.reduceDiv, Nat.reduceMod, Nat.reduceLT, Nat.reduceLeDiff, Nat.reduceEqDiff, Nat.reduceBEq, Nat.reduceBNe, Nat.reduceGT, Int.reduceAdd, Int.reduceSub, Int.reduceMul, Int.reduceNeg, Int.reduceLT, Int.reduceLE, Int.reduceEq, Int.reduceNe, Int.reduceBEq, Int.reduceBNe, Int.reduceToNat, Int.reduceGT, Int.reduceGE, ↓reduceIte, decide_true, decide_false]
          simpa using hb
        · by_cases hlt : (k : Int) < st.length
          · obtain ⟨x, hx⟩ := get_lt hlt
            have hd := flat_at Vial.cs (n := 8) (fun _ => rfl) hx
            have hc1 : IntKind.i64.wrap (k + 1) = ((k + 1 : Nat) : Int) := by rw [wrap_in (by omega) (by omega)]; omega
            first
            | simp (decide := true) (maxSteps := 4000000) only [go_sem, Nat.reduceAdd, Nat.reduceSub, Nat.reduceMul, Nat.reduceDiv, Nat.reduceMod, Nat.reduceLT, Nat.reduceLeDiff, Nat.reduceEqDiff, Nat.reduceBEq, Nat.reduceBNe, Nat.reduceGT, Int.reduceAdd, Int.reduceSub, Int.reduceMul, Int.reduceNeg, Int.reduceLT, Int.reduceLE, Int.reduceEq, Int.reduceNe, Int.reduceBEq, Int.reduceBNe, Int.reduceToNat, Int.reduceGT, Int.reduceGE, ↓reduceIte, decide_true, decide_false, hlt, hd, Vial.cs]
              refine hI1 _ ⟨k + 1, by omega⟩ (by simp only; omega) ?_
              simp (decide := true) (maxSteps := 4000000) only [go_sem, Nat.reduceAdd, Nat.reduceSub, Nat.reduceMul, Nat.reduceDiv, Nat.reduceMod, Nat.reduceLT, Nat.reduceLeDiff, Nat.reduceEqDiff, Nat.reduceBEq, Nat.reduceBNe, Nat.reduceGT, Int.reduceAdd, Int.reduceSub, Int.reduceMul, Int.reduceNeg, Int.reduceLT, Int.reduceLE, Int.reduceEq, Int.reduceNe, Int.reduceBEq, Int.reduceBNe, Int.reduceToNat, Int.reduceGT, Int.reduceGE, ↓reduceIte, decide_true, decide_false, hc1]
            | by_cases hlp : (k : Int) < pr.length
              · obtain ⟨y, hy⟩ := get_lt hlp
                have hdy := flat_at ic (n := 1) (fun _ => rfl) hy
                rw [Nat.mul_one] at hdy
                simp (decide := true) (maxSteps := 4000000) only [go_sem, Nat.reduceAdd, Nat.reduceSub, Nat.reduceMul, Nat.reduceDiv, Nat.reduceMod, Nat.reduceLT, Nat.reduceLeDiff, Nat.reduceEqDiff, Nat.reduceBEq, Nat.reduceBNe, Nat.reduceGT, Int.reduceAdd, Int.reduceSub, Int.reduceMul, Int.reduceNeg, Int.reduceLT, Int.reduceLE, Int.reduceEq, Int.reduceNe, Int.reduceBEq, Int.reduceBNe, Int.reduceToNat, Int.reduceGT, Int.reduceGE, ↓reduceIte, decide_true, decide_false, eq_self, Nat.mul_one, Nat.zero_mul, Nat.one_mul, Int.le_refl, Nat.le_refl, Int.cast_ofNat_Int, hlt, hd, Vial.cs, hdy, hlp, ic]
                refine hI1 _ ⟨k + 1, by omega⟩ (by simp only; omega) ?_
                simp (decide := true) (maxSteps := 4000000) only [go_sem, Nat.reduceAdd, Nat.reduceSub, Nat.reduceMul, Nat.reduceDiv, Nat.reduceMod, Nat.reduceLT, Nat.reduceLeDiff, Nat.reduceEqDiff, Nat.reduceBEq, Nat.reduceBNe, Nat.reduceGT, Int.reduceAdd, Int.reduceSub, Int.reduceMul, Int.reduceNeg, Int.reduceLT, Int.reduceLE, Int.reduceEq, Int.reduceNe, Int.reduceBEq, Int.reduceBNe, Int.reduceToNat, Int.reduceGT, Int.reduceGE, ↓reduceIte, decide_true, decide_false, hc1]
              · simp (decide := true) (maxSteps := 4000000) only [go_sem, Nat.reduceAdd, Nat.reduceSub, Nat.reduceMul, Nat.reduceDiv, Nat.reduceMod, Nat.reduceLT, Nat.reduceLeDiff, Nat.reduceEqDiff, Nat.reduceBEq, Nat.reduceBNe, Nat.reduceGT, Int.reduceAdd, Int.reduceSub, Int.reduceMul, Int.reduceNeg, Int.reduceLT, Int.reduceLE, Int.reduceEq, Int.reduceNe, Int.reduceBEq, Int.reduceBNe, Int.reduceToNat, Int.reduceGT, Int.reduceGE, ↓reduceIte, decide_true, decide_false, eq_self, Nat.mul_one, Nat.zero_mul, Nat.one_mul, Int.le_refl, Nat.le_refl, Int.cast_ofNat_Int, hlt, hd, Vial.cs, hlp]
                refine hI1 _ ⟨k + 1, by omega⟩ (by simp only; omega) ?_
                simp (decide := true) (maxSteps := 4000000) only [go_sem, Nat.reduceAdd, Nat.reduceSub, Nat.reduceMul, Nat.reduceDiv, Nat.reduceMod, Nat.reduceLT, Nat.reduceLeDiff, Nat.reduceEqDiff, Nat.reduceBEq, Nat.reduceBNe, Nat.reduceGT, Int.reduceAdd, Int.reduceSub, Int.reduceMul, Int.reduceNeg, Int.reduceLT, Int.reduceLE, Int.reduceEq, Int.reduceNe, Int.reduceBEq, Int.reduceBNe, Int.reduceToNat, Int.reduceGT, Int.reduceGE, ↓reduceIte, decide_true, decide_false, hc1]
          · simp (decide := true) (maxSteps := 4000000) only [go_sem, Nat.reduceAdd, Nat.reduceSub, Nat.reduceMul, Nat.reduceDiv, Nat.reduceMod, Nat.reduceLT, Nat.reduceLeDiff, Nat.reduceEqDiff, Nat.reduceBEq, Nat.reduceBNe, Nat.reduceGT, Int.reduceAdd, Int.reduceSub, Int.reduceMul, Int.reduceNeg, Int.reduceLT, Int.reduceLE, Int.reduceEq, Int.reduceNe, Int.reduceBEq, Int.reduceBNe, Int.reduceToNat, Int.reduceGT, Int.reduceGE, ↓reduceIte, decide_true, decide_false, hlt]
            refine hQ1 _ _ ?_
            simp (decide := true) (maxSteps := 4000000) only [go_sem, Nat.reduceAdd, Nat.reduceSub, Nat.reduceMul, Nat.reduceDiv, Nat.reduceMod, Nat.reduceLT, Nat.reduceLeDiff, Nat.reduceEqDiff, Nat.reduceBEq, Nat.reduceBNe, Nat.reduceGT, Int.reduceAdd, Int.reduceSub, Int.reduceMul, Int.reduceNeg, Int.reduceLT, Int.reduceLE, Int.reduceEq, Int.reduceNe, Int.reduceBEq, Int.reduceBNe, Int.reduceToNat, Int.reduceGT, Int.reduceGE, ↓reduceIte, decide_true, decide_false]
  | true =>
    have h10 : 1 ≤ st.length ∧ st.length ≤ 10 ∧ pr.length = st.length := by
      simp only [okBase, inB, Bool.and_eq_true, decide_eq_true_eq, beq_iff_eq] at hb; omega
    obtain ⟨full, rfl⟩ := hs.ne h10.1
    obtain ⟨full', rfl⟩ := ht.ne (by omega)
    have hb' := hb
    unfold okBase at hb'
    rw [h10.2.2] at hb' ⊢
    simp (decide := true) (maxSteps := 4000000) only [go_sem, Nat.reduceAdd, Nat.reduceSub, Nat.reduceMul, Nat.reduceDiv, Nat.reduceMod, Nat.reduceLT, Nat.reduceLeDiff, Nat.reduceEqDiff, Nat.reduceBEq, Nat.reduceBNe, Nat.reduceGT, Int.reduceAdd, Int.reduceSub, Int.reduceMul, Int.reduceNeg, Int.reduceLT, Int.reduceLE, Int.reduceEq, Int.reduceNe, Int.reduceBEq, Int.reduceBNe, Int.reduceToNat, Int.reduceGT, Int.reduceGE, ↓reduceIte, decide_true, decide_false, Try.f30]
    refine pwpC_loopU (A := { k : Nat // k ≤ st.length }) [0, 1, 5, 38] (fun k => [(39, .t (.int .i64 k.1)), (8, .t (.bool (okTo st pr rg fl k.1)))]) (fun _ => []) (fun k => st.length - k.1) ⟨0, by omega⟩ (by decide) (fun _ => by rfl) ?_ fun Q1 hQ1 ⟨k, hk⟩ I1 hI1 => ?_
    · simp (decide := true) (maxSteps := 4000000) only [go_sem, Nat.reduceAdd, Nat.reduceSub, Nat.reduceMul, Nat.reduceDiv, Nat.reduceMod, Nat.reduceLT, Nat.reduceLeDiff, Nat.reduceEqDiff, Nat.reduceBEq, Nat.reduceBNe, Nat.reduceGT, Int.reduceAdd, Int.reduceSub, Int.reduceMul, Int.reduceNeg, Int.reduceLT, Int.reduceLE, Int.reduceEq, Int.reduceNe, Int.reduceBEq, Int.reduceBNe, Int.reduceToNat, Int.reduceGT, Int.reduceGE, ↓reduceIte, decide_true, decide_false]
      unfold okTo okBase
      rw [h10.2.2]; simp
    · by_cases hlt : (k : Int) < st.length
      · obtain ⟨x, hx⟩ := get_lt hlt
        obtain ⟨y, hy⟩ := get_lt (l := pr) (k := k) (by omega)
        have hd := flat_at Vial.cs (n := 8) (fun _ => rfl) hx
        have hdy := flat_at ic (n := 1) (fun _ => rfl) hy
        rw [Nat.mul_one] at hdy
        have hc1 : IntKind.i64.wrap (k + 1) = ((k + 1 : Nat) : Int) := by rw [wrap_in (by omega) (by omega)]; omega
        have hs := okTo_succ st pr rg fl k
        unfold okAt at hs
        rw [hx, hy] at hs
        cases hok : okTo st pr rg fl k with
        | false =>
          simp (decide := true) (maxSteps := 4000000) only [go_sem, Nat.reduceAdd, Nat.reduceSub, Nat.reduceMul, Nat.reduceDiv, Nat.reduceMod, Nat.reduceLT, Nat.reduceLeDiff, Nat.reduceEqDiff, Nat.reduceBEq, Nat.reduceBNe, Nat.reduceGT, Int.reduceAdd, Int.reduceSub, Int.reduceMul, Int.reduceNeg, Int.reduceLT, Int.reduceLE, Int.reduceEq, Int.reduceNe, Int.reduceBEq, Int.reduceBNe, Int.reduceToNat, Int.reduceGT, Int.reduceGE, ↓reduceIte, decide_true, decide_false, eq_self, Nat.mul_one, Nat.zero_mul, Nat.one_mul, Int.le_refl, Nat.le_refl, Int.cast_ofNat_Int, hlt, hd, hdy, Vial.cs, ic, hok]
          refine hI1 _ ⟨k + 1, by omega⟩ (by simp only; omega) ?_
          simp (decide := true) (maxSteps := 4000000) only [go_sem, Nat.reduceAdd, Nat.reduceSub, Nat.reduceMul, Nat.reduceDiv, Nat.reduceMod, Nat.reduceLT, Nat.reduceLeDiff, Nat.reduceEqDiff, Nat.reduceBEq, Nat.reduceBNe, Nat.reduceGT, Int.reduceAdd, Int.reduceSub, Int.reduceMul, Int.reduceNeg, Int.reduceLT, Int.reduceLE, Int.reduceEq, Int.reduceNe, Int.reduceBEq, Int.reduceBNe, Int.reduceToNat, Int.reduceGT, Int.reduceGE, ↓reduceIte, decide_true, decide_false, hc1, hs, hok, Bool.false_and]
        | true =>
          cases hv : x.ok with
          | false =>
            simp (decide := true) (maxSteps := 4000000) only [go_sem, Nat.reduceAdd, Nat.reduceSub, Nat.reduceMul, Nat.reduceDiv, Nat.reduceMod, Nat.reduceLT, Nat.reduceLeDiff, Nat.reduceEqDiff, Nat.reduceBEq, Nat.reduceBNe, Nat.reduceGT, Int.reduceAdd, Int.reduceSub, Int.reduceMul, Int.reduceNeg, Int.reduceLT, Int.reduceLE, Int.reduceEq, Int.reduceNe, Int.reduceBEq, Int.reduceBNe, Int.reduceToNat, Int.reduceGT, Int.reduceGE, ↓reduceIte, decide_true, decide_false, eq_self, Nat.mul_one, Nat.zero_mul, Nat.one_mul, Int.le_refl, Nat.le_refl, Int.cast_ofNat_Int, hlt, hd, hdy, Vial.cs, ic, hok, hv]
            refine hI1 _ ⟨k + 1, by omega⟩ (by simp only; omega) ?_
            simp (decide := true) (maxSteps := 4000000) only [go_sem, Nat.reduceAdd, Nat.reduceSub, Nat.reduceMul, Nat.reduceDiv, Nat.reduceMod, Nat.reduceLT, Nat.reduceLeDiff, Nat.reduceEqDiff, Nat.reduceBEq, Nat.reduceBNe, Nat.reduceGT, Int.reduceAdd, Int.reduceSub, Int.reduceMul, Int.reduceNeg, Int.reduceLT, Int.reduceLE, Int.reduceEq, Int.reduceNe, Int.reduceBEq, Int.reduceBNe, Int.reduceToNat, Int.reduceGT, Int.reduceGE, ↓reduceIte, decide_true, decide_false, hc1, hs, hok, hv, Bool.false_and, Bool.true_and]
          | true =>
            simp (decide := true) (maxSteps := 4000000) only [go_sem, Nat.reduceAdd, Nat.reduceSub, Nat.reduceMul, Nat.reduceDiv, Nat.reduceMod, Nat.reduceLT, Nat.reduceLeDiff, Nat.reduceEqDiff, Nat.reduceBEq, Nat.reduceBNe, Nat.reduceGT, Int.reduceAdd, Int.reduceSub, Int.reduceMul, Int.reduceNeg, Int.reduceLT, Int.reduceLE, Int.reduceEq, Int.reduceNe, Int.reduceBEq, Int.reduceBNe, Int.reduceToNat, Int.reduceGT, Int.reduceGE, ↓reduceIte, decide_true, decide_false, eq_self, Nat.mul_one, Nat.zero_mul, Nat.one_mul, Int.le_refl, Nat.le_refl, Int.cast_ofNat_Int, hlt, hd, hdy, Vial.cs, ic, hok, hv]
            refine hI1 _ ⟨k + 1, by omega⟩ (by simp only; omega) ?_
            simp (decide := true) (maxSteps := 4000000) only [go_sem, Nat.reduceAdd, Nat.reduceSub, Nat.reduceMul, Nat.reduceDiv, Nat.reduceMod, Nat.reduceLT, Nat.reduceLeDiff, Nat.reduceEqDiff, Nat.reduceBEq, Nat.reduceBNe, Nat.reduceGT, Int.reduceAdd, Int.reduceSub, Int.reduceMul, Int.reduceNeg, Int.reduceLT, Int.reduceLE, Int.reduceEq, Int.reduceNe, Int.reduceBEq, Int.reduceBNe, Int.reduceToNat, Int.reduceGT, Int.reduceGE, ↓reduceIte, decide_true, decide_false, hc1, hs, hok, hv, Bool.true_and]
      · have hkl : k = st.length := by omega
        subst hkl
        cases hok : okTo st pr rg fl st.length with
        | false =>
          have hr : chooseP st pr rg fl = (0, 34) := by unfold chooseP; rw [hok]; rfl
          simp (decide := true) (maxSteps := 4000000) only [go_sem, Nat.reduceAdd, Nat.reduceSub, Nat.reduceMul, Nat.reduceDiv, Nat.reduceMod, Nat.reduceLT, Nat.reduceLeDiff, Nat.reduceEqDiff, Nat.reduceBEq, Nat.reduceBNe, Nat.reduceGT, Int.reduceAdd, Int.reduceSub, Int.reduceMul, Int.reduceNeg, Int.reduceLT, Int.reduceLE, Int.reduceEq, Int.reduceNe, Int.reduceBEq, Int.reduceBNe, Int.reduceToNat, Int.reduceGT, Int.reduceGE, ↓reduceIte, decide_true, decide_false, hlt, hok]
          refine hQ1 _ _ ?_
          simp (decide := true) (maxSteps := 4000000) only [go_sem, Nat.reduceAdd, Nat.reduceSub, Nat.reduceMul, Nat.reduceDiv, Nat.reduceMod, Nat.reduceLT, Nat.reduceLeDiff, Nat.reduceEqDiff, Nat.reduceBEq, Nat.reduceBNe, Nat.reduceGT, Int.reduceAdd, Int.reduceSub, Int.reduceMul, Int.reduceNeg, Int.reduceLT, Int.reduceLE, Int.reduceEq, Int.reduceNe, Int.reduceBEq, Int.reduceBNe, Int.reduceToNat, Int.reduceGT, Int.reduceGE, ↓reduceIte, decide_true, decide_false, hr]
        | true =>
          simp (decide := true) (maxSteps := 4000000) only [go_sem, Nat.reduceAdd, Nat.reduceSub, Nat.reduceMul, Nat.reduceDiv, Nat.reduceMod, Nat.reduceLT, Nat.reduceLeDiff, Nat.reduceEqDiff, Nat.reduceBEq, Nat.reduceBNe, Nat.reduceGT, Int.reduceAdd, Int.reduceSub, Int.reduceMul, Int.reduceNeg, Int.reduceLT, Int.reduceLE, Int.reduceEq, Int.reduceNe, Int.reduceBEq, Int.reduceBNe, Int.reduceToNat, Int.reduceGT, Int.reduceGE, ↓reduceIte, decide_true, decide_false, hlt, hok]
          refine hQ1 _ _ ?_
          simp (decide := true) (maxSteps := 4000000) only [go_sem, Nat.reduceAdd, Nat.reduceSub, Nat.reduceMul, Nat.reduceDiv, Nat.reduceMod, Nat.reduceLT, Nat.reduceLeDiff, Nat.reduceEqDiff, Nat.reduceBEq, Nat.reduceBNe, Nat.reduceGT, Int.reduceAdd, Int.reduceSub, Int.reduceMul, Int.reduceNeg, Int.reduceLT, Int.reduceLE, Int.reduceEq, Int.reduceNe, Int.reduceBEq, Int.reduceBNe, Int.reduceToNat, Int.reduceGT, Int.reduceGE, ↓reduceIte, decide_true, decide_false]
          refine pwpC_loopU (A := { k : Nat // k ≤ st.length }) [1, 5, 10, 61, 62] (fun k => [(63, .t (.int .i64 k.1)), (11, .own ((offTo st pr rg fl k.1).flatMap Of.cs) (offTo st pr rg fl k.1).length 1)]) (fun k => [(1, .tok (offTo st pr rg fl k.1).length 107)]) (fun k => st.length - k.1) ⟨0, by omega⟩ (by decide) (fun _ => by rfl) ?_ fun Q2 hQ2 ⟨k, hk⟩ I2 hI2 => ?_
          · simp (decide := true) (maxSteps := 4000000) only [go_sem, Nat.reduceAdd, Nat.reduceSub, Nat.reduceMul, Nat.reduceDiv, Nat.reduceMod, Nat.reduceLT, Nat.reduceLeDiff, Nat.reduceEqDiff, Nat.reduceBEq, Nat.reduceBNe, Nat.reduceGT, Int.reduceAdd, Int.reduceSub, Int.reduceMul, Int.reduceNeg, Int.reduceLT, Int.reduceLE, Int.reduceEq, Int.reduceNe, Int.reduceBEq, Int.reduceBNe, Int.reduceToNat, Int.reduceGT, Int.reduceGE, ↓reduceIte, decide_true, decide_false]
            exact ⟨⟨rfl, rfl⟩, rfl⟩
          · have hle := offTo_le st pr rg fl k
            by_cases hlt : (k : Int) < st.length
            · obtain ⟨x, hx⟩ := get_lt hlt
              obtain ⟨y, hy⟩ := get_lt (l := pr) (k := k) (by omega)
              have hd := flat_at Vial.cs (n := 8) (fun _ => rfl) hx
              have hdy := flat_at ic (n := 1) (fun _ => rfl) hy
              rw [Nat.mul_one] at hdy
              have hv := okTo_ok hok (by omega) hx
              have hc1 : IntKind.i64.wrap (k + 1) = ((k + 1 : Nat) : Int) := by rw [wrap_in (by omega) (by omega)]; omega
              have hc : (List.flatMap Of.cs (offTo st pr rg fl k)).length = (offTo st pr rg fl k).length * 10 := flat_len Of.cs (n := 10) (fun _ => rfl) _
              have hr : ((offTo st pr rg fl k).length + 1) * 80 ≤ 140737488355328 := by omega
              cases hdo : doesP x rg fl with
              | false =>
                have ho : offTo st pr rg fl (k + 1) = offTo st pr rg fl k := offTo_f (by unfold offAt; rw [hx, hy]; simp [hdo])
                simp (decide := true) (maxSteps := 4000000) only [go_sem, Nat.reduceAdd, Nat.reduceSub, Nat.reduceMul, Nat.reduceDiv, Nat.reduceMod, Nat.reduceLT, Nat.reduceLeDiff, Nat.reduceEqDiff, Nat.reduceBEq, Nat.reduceBNe, Nat.reduceGT, Int.reduceAdd, Int.reduceSub, Int.reduceMul, Int.reduceNeg, Int.reduceLT, Int.reduceLE, Int.reduceEq, Int.reduceNe, Int.reduceBEq, Int.reduceBNe, Int.reduceToNat, Int.reduceGT, Int.reduceGE, ↓reduceIte, decide_true, decide_false, eq_self, Nat.mul_one, Nat.zero_mul, Nat.one_mul, Int.le_refl, Nat.le_refl, Int.cast_ofNat_Int, hlt, hd, hdy, Vial.cs, ic, hv, hdo, hc, hr]
                refine hI2 _ ⟨k + 1, by omega⟩ (by simp only; omega) ?_
                simp (decide := true) (maxSteps := 4000000) only [go_sem, Nat.reduceAdd, Nat.reduceSub, Nat.reduceMul, Nat.reduceDiv, Nat.reduceMod, Nat.reduceLT, Nat.reduceLeDiff, Nat.reduceEqDiff, Nat.reduceBEq, Nat.reduceBNe, Nat.reduceGT, Int.reduceAdd, Int.reduceSub, Int.reduceMul, Int.reduceNeg, Int.reduceLT, Int.reduceLE, Int.reduceEq, Int.reduceNe, Int.reduceBEq, Int.reduceBNe, Int.reduceToNat, Int.reduceGT, Int.reduceGE, ↓reduceIte, decide_true, decide_false, eq_self, Nat.mul_one, Nat.zero_mul, Nat.one_mul, Int.le_refl, Nat.le_refl, Int.cast_ofNat_Int, hc1, ho]
              | true =>
                have ho : offTo st pr rg fl (k + 1) = offTo st pr rg fl k ++ [⟨x, k, y⟩] := offTo_t (by unfold offAt; rw [hx, hy]; simp [hdo])
                simp (decide := true) (maxSteps := 4000000) only [go_sem, Nat.reduceAdd, Nat.reduceSub, Nat.reduceMul, Nat.reduceDiv, Nat.reduceMod, Nat.reduceLT, Nat.reduceLeDiff, Nat.reduceEqDiff, Nat.reduceBEq, Nat.reduceBNe, Nat.reduceGT, Int.reduceAdd, Int.reduceSub, Int.reduceMul, Int.reduceNeg, Int.reduceLT, Int.reduceLE, Int.reduceEq, Int.reduceNe, Int.reduceBEq, Int.reduceBNe, Int.reduceToNat, Int.reduceGT, Int.reduceGE, ↓reduceIte, decide_true, decide_false, eq_self, Nat.mul_one, Nat.zero_mul, Nat.one_mul, Int.le_refl, Nat.le_refl, Int.cast_ofNat_Int, hlt, hd, hdy, Vial.cs, ic, hv, hdo, hc, hr]
                refine hI2 _ ⟨k + 1, by omega⟩ (by simp only; omega) ?_
                simp (decide := true) (maxSteps := 4000000) only [go_sem, Nat.reduceAdd, Nat.reduceSub, Nat.reduceMul, Nat.reduceDiv, Nat.reduceMod, Nat.reduceLT, Nat.reduceLeDiff, Nat.reduceEqDiff, Nat.reduceBEq, Nat.reduceBNe, Nat.reduceGT, Int.reduceAdd, Int.reduceSub, Int.reduceMul, Int.reduceNeg, Int.reduceLT, Int.reduceLE, Int.reduceEq, Int.reduceNe, Int.reduceBEq, Int.reduceBNe, Int.reduceToNat, Int.reduceGT, Int.reduceGE, ↓reduceIte, decide_true, decide_false, eq_self, Nat.mul_one, Nat.zero_mul, Nat.one_mul, Int.le_refl, Nat.le_refl, Int.cast_ofNat_Int, hc1, ho, List.flatMap_append, List.flatMap_cons, List.flatMap_nil, List.length_append, List.length_cons, List.length_nil, Of.cs]
            · have hkl : k = st.length := by omega
              subst hkl
              have hle' : (offTo st pr rg fl st.length).length ≤ 1000 := by omega
              simp (decide := true) (maxSteps := 4000000) only [go_sem, Nat.reduceAdd, Nat.reduceSub, Nat.reduceMul, Nat.reduceDiv, Nat.reduceMod, Nat.reduceLT, Nat.reduceLeDiff, Nat.reduceEqDiff, Nat.reduceBEq, Nat.reduceBNe, Nat.reduceGT, Int.reduceAdd, Int.reduceSub, Int.reduceMul, Int.reduceNeg, Int.reduceLT, Int.reduceLE, Int.reduceEq, Int.reduceNe, Int.reduceBEq, Int.reduceBNe, Int.reduceToNat, Int.reduceGT, Int.reduceGE, ↓reduceIte, decide_true, decide_false, eq_self, Nat.mul_one, Nat.zero_mul, Nat.one_mul, Int.le_refl, Nat.le_refl, Int.cast_ofNat_Int, hlt]
              refine hQ2 _ _ ?_
              rcases Nat.eq_zero_or_pos (offTo st pr rg fl st.length).length with h0 | h0
              · have h00 : offTo st pr rg fl st.length = [] := List.length_eq_zero_iff.1 h0
                have hr : chooseP st pr rg fl = (0, 4) := by unfold chooseP; rw [hok, h00]; rfl
                have hun : unOfs [] = some [] := rfl
                have hbn : bestOf [] = none := rfl
                simp (decide := true) (maxSteps := 4000000) only [go_sem, Nat.reduceAdd, Nat.reduceSub, Nat.reduceMul, Nat.reduceDiv, Nat.reduceMod, Nat.reduceLT, Nat.reduceLeDiff, Nat.reduceEqDiff, Nat.reduceBEq, Nat.reduceBNe, Nat.reduceGT, Int.reduceAdd, Int.reduceSub, Int.reduceMul, Int.reduceNeg, Int.reduceLT, Int.reduceLE, Int.reduceEq, Int.reduceNe, Int.reduceBEq, Int.reduceBNe, Int.reduceToNat, Int.reduceGT, Int.reduceGE, ↓reduceIte, decide_true, decide_false, eq_self, Nat.mul_one, Nat.zero_mul, Nat.one_mul, Int.le_refl, Nat.le_refl, Int.cast_ofNat_Int, h00, hr, hun, hbn, Of.cs, Of.zero, Option.getD_none, List.length_nil]
              · obtain ⟨y, hy⟩ := best_some h0
                have hr : chooseP st pr rg fl = (y.i, 0) := by unfold chooseP; rw [hok, hy]; rfl
                have h01 : ((offTo st pr rg fl st.length).length : Int) > 0 := by omega
                have h02 : ¬ (offTo st pr rg fl st.length).length = 0 := by omega
                simp (decide := true) (maxSteps := 4000000) only [go_sem, Nat.reduceAdd, Nat.reduceSub, Nat.reduceMul, Nat.reduceDiv, Nat.reduceMod, Nat.reduceLT, Nat.reduceLeDiff, Nat.reduceEqDiff, Nat.reduceBEq, Nat.reduceBNe, Nat.reduceGT, Int.reduceAdd, Int.reduceSub, Int.reduceMul, Int.reduceNeg, Int.reduceLT, Int.reduceLE, Int.reduceEq, Int.reduceNe, Int.reduceBEq, Int.reduceBNe, Int.reduceToNat, Int.reduceGT, Int.reduceGE, ↓reduceIte, decide_true, decide_false, eq_self, Nat.mul_one, Nat.zero_mul, Nat.one_mul, Int.le_refl, Nat.le_refl, Int.cast_ofNat_Int, hr, Of.cs, Of.zero, hy, h01, h02, hle']
end Go.Proofs.Ytgofljmnlfnlnaa

/- Part Lj. -/
namespace Go.Oc
open Go Go.Pm
def unI : List TV → Option (List Int)
  | [] => some []
  | .int .i64 a :: r => (unI r).map (a :: ·)
  | _ => none
theorem unI_eq : ∀ l : List Int, unI (ints l) = some l
  | [] => rfl
  | x :: l => by have := unI_eq l; unfold ints at this ⊢; simp [unI, this]
theorem unI_some : ∀ {cs : List TV} {l : List Int}, unI cs = some l → cs = l.flatMap ic := by
  intro cs
  induction cs using unI.induct with
  | case1 => intro l h; simp [unI] at h; subst h; rfl
  | case2 a r ih =>
    intro l h
    simp only [unI, Option.map_eq_some_iff] at h
    obtain ⟨l', h1, rfl⟩ := h
    rw [ih h1]; rfl
  | case3 r h1 h2 =>
    intro l h
    unfold unI at h
    split at h
    · exact absurd rfl h1
    · exact absurd rfl (h2 _ _)
    · cases h
attribute [go_sem] unI_eq
def exV : Vial := ⟨40, 16, 20, 50, 52, 38, 42, 1⟩
def exO : Vial := ⟨60, 20, 24, 20, 20, 58, 62, 1⟩
def exR : List Rd := [⟨14, 32, false⟩, ⟨9, 27, true⟩, ⟨5, 23, true⟩]
end Go.Oc
namespace Go.Proofs.Ytgofljmnlfnlnaa
open Go.RowKit Go.Pm Go.Oc
set_option maxRecDepth 100000
set_option linter.unusedVariables false
set_option maxHeartbeats 4000000

theorem Same_d {a b : List Int} {s t : TV} (hs : IsRow ic s a) (ht : IsRow ic t b) (ha : a.length ≤ 9223372036854775806) : PCalls Try.prog 25 [s, t] (.bool (decide (a = b))) := by
  rcases hs with ⟨rfl, rfl⟩ | ⟨fa, rfl⟩ <;> rcases ht with ⟨rfl, rfl⟩ | ⟨fb, rfl⟩
  · refine pcalls_by Try.mixes noSpec_ok (fn := Try.f25) Try.func25 rfl (by kernel_rfl) (by show 2 ≤ _; decide) ?_
    simp (decide := true) (maxSteps := 4000000) only [go_sem, Nat.reduceAdd, Nat.reduceSub, Nat.reduceMul, Nat.reduceDiv, Nat.reduceMod, Nat.reduceLT, Nat.reduceLeDiff, Nat.reduceEqDiff, Nat.reduceBEq, Nat.reduceBNe, Nat.reduceGT, Int.reduceAdd, Int.reduceSub, Int.reduceMul, Int.reduceNeg, Int.reduceLT, Int.reduceLE, Int.reduceEq, Int.reduceNe, Int.reduceBEq, Int.reduceBNe, Int.reduceToNat, Int.reduceGT, Int.reduceGE, ↓reduceIte, decide_true, decide_false, Try.f25]
    refine pwpC_loopU (A := Unit) [0, 1] (fun _ => [(5, .t (.int .i64 0))]) (fun _ => []) (fun _ => 0) () (by decide) (fun _ => by rfl) ?_ fun Q1 hQ1 k I1 hI1 => ?_
    · simp (decide := true) (maxSteps := 4000000) only [go_sem, Nat.reduceAdd, Nat.reduceSub, Nat.reduceMul, Nat.reduceDiv, Nat.reduceMod, Nat.reduceLT, Nat.reduceLeDiff, Nat.reduceEqDiff, Nat.reduceBEq, Nat.reduceBNe, Nat.reduceGT, Int.reduceAdd, Int.reduceSub, Int.reduceMul, Int.reduceNeg, Int.reduceLT, Int.reduceLE, Int.reduceEq, Int.reduceNe, Int.reduceBEq, Int.reduceBNe, Int.reduceToNat, Int.reduceGT, Int.reduceGE, ↓reduceIte, decide_true, decide_false]
    · simp (decide := true) (maxSteps := 4000000) only [go_sem, Nat.reduceAdd, Nat.reduceSub, Nat.reduceMul, Nat.reduceDiv, Nat.reduceMod, Nat.reduceLT, Nat.reduceLeDiff, Nat.reduceEqDiff, Nat.reduceBEq, Nat.reduceBNe, Nat.reduceGT, Int.reduceAdd, Int.reduceSub, Int.reduceMul, Int.reduceNeg, Int.reduceLT, Int.reduceLE, Int.reduceEq, Int.reduceNe, Int.reduceBEq, Int.reduceBNe, Int.reduceToNat, Int.reduceGT, Int.reduceGE, ↓reduceIte, decide_true, decide_false]
      first | done | (refine hQ1 _ _ ?_; simp (decide := true) (maxSteps := 4000000) only [go_sem, Nat.reduceAdd, Nat.reduceSub, Nat.reduceMul, Nat.reduceDiv, Nat.reduceMod, Nat.reduceLT, Nat.reduceLeDiff, Nat.reduceEqDiff, Nat.reduceBEq, Nat.reduceBNe, Nat.reduceGT, Int.reduceAdd, Int.reduceSub, Int.reduceMul, Int.reduceNeg, Int.reduceLT, Int.reduceLE, Int.reduceEq, Int.reduceNe, Int.reduceBEq, Int.reduceBNe, Int.reduceToNat, Int.reduceGT, Int.reduceGE, ↓reduceIte, decide_true, decide_false])
  · by_cases hb : b = []
    · subst hb
      refine pcalls_by Try.mixes noSpec_ok (fn := Try.f25) Try.func25 rfl (by kernel_rfl) (by show 2 ≤ _; decide) ?_
      simp (decide := true) (maxSteps := 4000000) only [go_sem, Nat.reduceAdd, Nat.reduceSub, Nat.reduceMul, Nat.reduceDiv, Nat.reduceMod, Nat.reduceLT, Nat.reduceLeDiff, Nat.reduceEqDiff, Nat.reduceBEq, Nat.reduceBNe, Nat.reduceGT, Int.reduceAdd, Int.reduceSub, Int.reduceMul, Int.reduceNeg, Int.reduceLT, Int.reduceLE, Int.reduceEq, Int.reduceNe, Int.reduceBEq, Int.reduceBNe, Int.reduceToNat, Int.reduceGT, Int.reduceGE, ↓reduceIte, decide_true, decide_false, eq_self, Nat.mul_one, Nat.zero_mul, Nat.one_mul, Int.le_refl, Nat.le_refl, Int.cast_ofNat_Int, Try.f25, List.length_nil, Int.cast_ofNat_Int, bne_self_eq_false]
      refine pwpC_loopU (A := Unit) [0, 1] (fun _ => [(5, .t (.int .i64 0))]) (fun _ => []) (fun _ => 0) () (by decide) (fun _ => by rfl) ?_ fun Q1 hQ1 k I1 hI1 => ?_
      · simp (decide := true) (maxSteps := 4000000) only [go_sem, Nat.reduceAdd, Nat.reduceSub, Nat.reduceMul, Nat.reduceDiv, Nat.reduceMod, Nat.reduceLT, Nat.reduceLeDiff, Nat.reduceEqDiff, Nat.reduceBEq, Nat.reduceBNe, Nat.reduceGT, Int.reduceAdd, Int.reduceSub, Int.reduceMul, Int.reduceNeg, Int.reduceLT, Int.reduceLE, Int.reduceEq, Int.reduceNe, Int.reduceBEq, Int.reduceBNe, Int.reduceToNat, Int.reduceGT, Int.reduceGE, ↓reduceIte, decide_true, decide_false]
      · simp (decide := true) (maxSteps := 4000000) only [go_sem, Nat.reduceAdd, Nat.reduceSub, Nat.reduceMul, Nat.reduceDiv, Nat.reduceMod, Nat.reduceLT, Nat.reduceLeDiff, Nat.reduceEqDiff, Nat.reduceBEq, Nat.reduceBNe, Nat.reduceGT, Int.reduceAdd, Int.reduceSub, Int.reduceMul, Int.reduceNeg, Int.reduceLT, Int.reduceLE, Int.reduceEq, Int.reduceNe, Int.reduceBEq, Int.reduceBNe, Int.reduceToNat, Int.reduceGT, Int.reduceGE, ↓reduceIte, decide_true, decide_false]
        first | done | (refine hQ1 _ _ ?_; simp (decide := true) (maxSteps := 4000000) only [go_sem, Nat.reduceAdd, Nat.reduceSub, Nat.reduceMul, Nat.reduceDiv, Nat.reduceMod, Nat.reduceLT, Nat.reduceLeDiff, Nat.reduceEqDiff, Nat.reduceBEq, Nat.reduceBNe, Nat.reduceGT, Int.reduceAdd, Int.reduceSub, Int.reduceMul, Int.reduceNeg, Int.reduceLT, Int.reduceLE, Int.reduceEq, Int.reduceNe, Int.reduceBEq, Int.reduceBNe, Int.reduceToNat, Int.reduceGT, Int.reduceGE, ↓reduceIte, decide_true, decide_false])
    · have h0 : b.length ≠ 0 := by simpa using hb
      have h1 : ((0 : Int) != b.length) = true := by simp; omega
      have h2 : decide ([] = b) = false := by simp; exact hb
      refine pcalls_by Try.mixes noSpec_ok (fn := Try.f25) Try.func25 rfl (by kernel_rfl) (by show 2 ≤ _; decide) ?_
      simp (decide := true) (maxSteps := 4000000) only [go_sem, Nat.reduceAdd, Nat.reduceSub, Nat.reduceMul, Nat.reduceDiv, Nat.reduceMod, Nat.reduceLT, Nat.reduceLeDiff, Nat.reduceEqDiff, Nat.reduceBEq, Nat.reduceBNe, Nat.reduceGT, Int.reduceAdd, Int.reduceSub, Int.reduceMul, Int.reduceNeg, Int.reduceLT, Int.reduceLE, Int.reduceEq, Int.reduceNe, Int.reduceBEq, Int.reduceBNe, Int.reduceToNat, Int.reduceGT, Int.reduceGE, ↓reduceIte, decide_true, decide_false, Try.f25, h1, h2]
  · by_cases hb : a = []
    · subst hb
      refine pcalls_by Try.mixes noSpec_ok (fn := Try.f25) Try.func25 rfl (by kernel_rfl) (by show 2 ≤ _; decide) ?_
      simp (decide := true) (maxSteps := 4000000) only [go_sem, Nat.reduceAdd, Nat.reduceSub, Nat.reduceMul, Nat.reduceDiv, Nat.reduceMod, Nat.reduceLT, Nat.reduceLeDiff, Nat.reduceEqDiff, Nat.reduceBEq, Nat.reduceBNe, Nat.reduceGT, Int.reduceAdd, Int.reduceSub, Int.reduceMul, Int.reduceNeg, Int.reduceLT, Int.reduceLE, Int.reduceEq, Int.reduceNe, Int.reduceBEq, Int.reduceBNe, Int.reduceToNat, Int.reduceGT, Int.reduceGE, ↓reduceIte, decide_true, decide_false, eq_self, Nat.mul_one, Nat.zero_mul, Nat.one_mul, Int.le_refl, Nat.le_refl, Int.cast_ofNat_Int, Try.f25, List.length_nil, Int.cast_ofNat_Int, bne_self_eq_false]
      refine pwpC_loopU (A := Unit) [0, 1] (fun _ => [(5, .t (.int .i64 0))]) (fun _ => []) (fun _ => 0) () (by decide) (fun _ => by rfl) ?_ fun Q1 hQ1 k I1 hI1 => ?_
      · simp (decide := true) (maxSteps := 4000000) only [go_sem, Nat.reduceAdd, Nat.reduceSub, Nat.reduceMul, Nat.reduceDiv, Nat.reduceMod, Nat.reduceLT, Nat.reduceLeDiff, Nat.reduceEqDiff, Nat.reduceBEq, Nat.reduceBNe, Nat.reduceGT, Int.reduceAdd, Int.reduceSub, Int.reduceMul, Int.reduceNeg, Int.reduceLT, Int.reduceLE, Int.reduceEq, Int.reduceNe, Int.reduceBEq, Int.reduceBNe, Int.reduceToNat, Int.reduceGT, Int.reduceGE, ↓reduceIte, decide_true, decide_false]
      · simp (decide := true) (maxSteps := 4000000) only [go_sem, Nat.reduceAdd, Nat.reduceSub, Nat.reduceMul, Nat.reduceDiv, Nat.reduceMod, Nat.reduceLT, Nat.reduceLeDiff, Nat.reduceEqDiff, Nat.reduceBEq, Nat.reduceBNe, Nat.reduceGT, Int.reduceAdd, Int.reduceSub, Int.reduceMul, Int.reduceNeg, Int.reduceLT, Int.reduceLE, Int.reduceEq, Int.reduceNe, Int.reduceBEq, Int.reduceBNe, Int.reduceToNat, Int.reduceGT, Int.reduceGE, ↓reduceIte, decide_true, decide_false]
        first | done | (refine hQ1 _ _ ?_; simp (decide := true) (maxSteps := 4000000) only [go_sem, Nat.reduceAdd, Nat.reduceSub, Nat.reduceMul, Nat.reduceDiv, Nat.reduceMod, Nat.reduceLT, Nat.reduceLeDiff, Nat.reduceEqDiff, Nat.reduceBEq, Nat.reduceBNe, Nat.reduceGT, Int.reduceAdd, Int.reduceSub, Int.reduceMul, Int.reduceNeg, Int.reduceLT, Int.reduceLE, Int.reduceEq, Int.reduceNe, Int.reduceBEq, Int.reduceBNe, Int.reduceToNat, Int.reduceGT, Int.reduceGE, ↓reduceIte, decide_true, decide_false])
    · have h0 : a.length ≠ 0 := by simpa using hb
      have h1 : ((a.length : Int) != 0) = true := by simp; omega
      have h2 : decide (a = []) = false := by simpa using hb
      refine pcalls_by Try.mixes noSpec_ok (fn := Try.f25) Try.func25 rfl (by kernel_rfl) (by show 2 ≤ _; decide) ?_
      simp (decide := true) (maxSteps := 4000000) only [go_sem, Nat.reduceAdd, Nat.reduceSub, Nat.reduceMul, Nat.reduceDiv, Nat.reduceMod, Nat.reduceLT, Nat.reduceLeDiff, Nat.reduceEqDiff, Nat.reduceBEq, Nat.reduceBNe, Nat.reduceGT, Int.reduceAdd, Int.reduceSub, Int.reduceMul, Int.reduceNeg, Int.reduceLT, Int.reduceLE, Int.reduceEq, Int.reduceNe, Int.reduceBEq, Int.reduceBNe, Int.reduceToNat, Int.reduceGT, Int.reduceGE, ↓reduceIte, decide_true, decide_false, Try.f25, h1, h2]
  · rw [ic_ints, ic_ints]; exact Same_c a b fa fb ha
noncomputable def gSame : List TV → Option TV
  | [s, t] => match rowL unI s, rowL unI t with
    | some a, some b => if a.length ≤ 9223372036854775806 then some (.bool (decide (a = b))) else none
    | _, _ => none
  | _ => none
theorem gSame_ok : ∀ xs r, gSame xs = some r → PCalls Try.prog 25 xs r := by
  intro xs r h
  unfold gSame at h
  split at h
  · split at h
    · rename_i a b ha hb
      split at h
      · rename_i hc; cases h; exact Same_d (rowL_some (un := unI) rfl (@unI_some) ha) (rowL_some (un := unI) rfl (@unI_some) hb) hc
      · cases h
    · cases h
  · cases h
attribute [go_sem] gSame

noncomputable def glTilt : List TV → Option TV
  | [.agg [.int .i64 m, .int .i64 a, .int .i64 b, .int .i64 c, .int .i64 d, .int .i64 e, .int .i64 f, .int .i64 g], s] => match rowL unRds s with
    | some l => if l.length ≤ 5864062014806 then some ((tiltR ⟨m, a, b, c, d, e, f, g⟩ l).t) else none
    | none => none
  | _ => none
theorem glTilt_ok : ∀ xs r, glTilt xs = some r → PCalls Try.prog 20 xs r := by
  intro xs r h
  unfold glTilt at h
  split at h
  · split at h
    · rename_i l hl
      have hl := rowL_some (un := unRds) rfl (@unRds_some) hl
      split at h
      · rename_i hc; cases h; exact lTilt_c ⟨_, _, _, _, _, _, _, _⟩ hl hc
      · cases h
    · cases h
  · cases h
attribute [go_sem] glTilt
noncomputable def glCan : List TV → Option TV
  | [.agg [.int .i64 m, .int .i64 a, .int .i64 b, .int .i64 c, .int .i64 d, .int .i64 e, .int .i64 f, .int .i64 g], s, .agg [.int .i64 tv, .int .i64 tz, .int .i64 tt]] => match rowL unRds s with
    | some l => if l.length ≤ 5864062014806 then some (.tup [.bool (canP ⟨m, a, b, c, d, e, f, g⟩ l tv tz tt).1, .int .i64 (canP ⟨m, a, b, c, d, e, f, g⟩ l tv tz tt).2]) else none
    | none => none
  | _ => none
theorem glCan_ok : ∀ xs r, glCan xs = some r → PCalls Try.prog 16 xs r := by
  intro xs r h
  unfold glCan at h
  split at h
  · split at h
    · rename_i l hl
      have hl := rowL_some (un := unRds) rfl (@unRds_some) hl
      split at h
      · rename_i hc; cases h; exact lCan_c ⟨_, _, _, _, _, _, _, _⟩ hl hc _ _ _
      · cases h
    · cases h
  · cases h
attribute [go_sem] glCan
noncomputable def glNext : List TV → Option TV
  | [.agg [.int .i64 m, .int .i64 a, .int .i64 b, .int .i64 c, .int .i64 d, .int .i64 e, .int .i64 f, .int .i64 g], s] => match rowL unRds s with
    | some l => if l.length ≤ 5864062014806 then some (.tup [.bool (nextP ⟨m, a, b, c, d, e, f, g⟩ l).1, .int .i64 (nextP ⟨m, a, b, c, d, e, f, g⟩ l).2.1, .int .i64 (nextP ⟨m, a, b, c, d, e, f, g⟩ l).2.2]) else none
    | none => none
  | _ => none
theorem glNext_ok : ∀ xs r, glNext xs = some r → PCalls Try.prog 26 xs r := by
  intro xs r h
  unfold glNext at h
  split at h
  · split at h
    · rename_i l hl
      have hl := rowL_some (un := unRds) rfl (@unRds_some) hl
      split at h
      · rename_i hc; cases h; exact lNext_c ⟨_, _, _, _, _, _, _, _⟩ hl hc
      · cases h
    · cases h
  · cases h
attribute [go_sem] glNext
noncomputable def glFalse : List TV → Option TV
  | [.agg [.int .i64 m, .int .i64 a, .int .i64 b, .int .i64 c, .int .i64 d, .int .i64 e, .int .i64 f, .int .i64 g], s] => match rowL unRds s with
    | some l => if l.length ≤ 5864062014806 then some (.tup [(falseP ⟨m, a, b, c, d, e, f, g⟩ l).1, .int .i64 (falseP ⟨m, a, b, c, d, e, f, g⟩ l).2]) else none
    | none => none
  | _ => none
theorem glFalse_ok : ∀ xs r, glFalse xs = some r → PCalls Try.prog 23 xs r := by
  intro xs r h
  unfold glFalse at h
  split at h
  · split at h
    · rename_i l hl
      have hl := rowL_some (un := unRds) rfl (@unRds_some) hl
      split at h
      · rename_i hc; cases h; exact lFalse_c ⟨_, _, _, _, _, _, _, _⟩ hl hc
      · cases h
    · cases h
  · cases h
attribute [go_sem] glFalse
noncomputable def glClicks : List TV → Option TV
  | [.agg [.int .i64 a, .int .i64 b], .int .i64 w, .int .i64 c] => some (.tup [.int .i64 (clicksP ⟨a, b⟩ w c).1, .int .i64 (clicksP ⟨a, b⟩ w c).2])
  | _ => none
theorem glClicks_ok : ∀ xs r, glClicks xs = some r → PCalls Try.prog 28 xs r := by
  intro xs r h
  unfold glClicks at h
  split at h
  · cases h; exact lClicks_c ⟨_, _⟩ _ _
  · cases h
attribute [go_sem] glClicks
noncomputable def glChoose : List TV → Option TV
  | [s, t, .agg [.int .i64 rg, .int .i64 fl]] => match rowL unVials s, rowL unI t with
    | some a, some b => if a.length ≤ 2199023255552 then some (.tup [.int .i64 (chooseP a b rg fl).1, .int .i64 (chooseP a b rg fl).2]) else none
    | _, _ => none
  | _ => none
theorem glChoose_ok : ∀ xs r, glChoose xs = some r → PCalls Try.prog 30 xs r := by
  intro xs r h
  unfold glChoose at h
  split at h
  · split at h
    · rename_i a b ha hb
      split at h
      · rename_i hc; cases h; exact lChoose_c (rowL_some (un := unVials) rfl (@unVials_some) ha) (rowL_some (un := unI) rfl (@unI_some) hb) _ _ hc
      · cases h
    · cases h
  · cases h
attribute [go_sem] glChoose
noncomputable def spJ1 : Pm.Spec := (((((((spB3.one 25 gSame).one 18 glCheck).one 20 glTilt).one 16 glCan).one 26 glNext).one 23 glFalse).one 28 glClicks).one 30 glChoose
@[go_sem] theorem spJ1_p (f : FuncId) (xs : List TV) : spJ1.p f xs = Pm.Spec.p ((((((((spB3.one 25 gSame).one 18 glCheck).one 20 glTilt).one 16 glCan).one 26 glNext).one 23 glFalse).one 28 glClicks).one 30 glChoose) f xs := rfl
@[go_sem] theorem spJ1_h (f : FuncId) (ps : List PV) (hl : List PO) : spJ1.h f ps hl = Pm.Spec.h ((((((((spB3.one 25 gSame).one 18 glCheck).one 20 glTilt).one 16 glCan).one 26 glNext).one 23 glFalse).one 28 glClicks).one 30 glChoose) f ps hl := rfl
@[go_sem] theorem spJ1_fz (f : FuncId) : spJ1.fz f = Pm.Spec.fz ((((((((spB3.one 25 gSame).one 18 glCheck).one 20 glTilt).one 16 glCan).one 26 glNext).one 23 glFalse).one 28 glClicks).one 30 glChoose) f := rfl
@[go_sem] theorem spJ1_fr (f : FuncId) : spJ1.fr f = Pm.Spec.fr ((((((((spB3.one 25 gSame).one 18 glCheck).one 20 glTilt).one 16 glCan).one 26 glNext).one 23 glFalse).one 28 glClicks).one 30 glChoose) f := rfl
@[go_sem] theorem spJ1_mu (t : TypeId) : spJ1.mu t = Pm.Spec.mu ((((((((spB3.one 25 gSame).one 18 glCheck).one 20 glTilt).one 16 glCan).one 26 glNext).one 23 glFalse).one 28 glClicks).one 30 glChoose) t := rfl
theorem spJ1_ok : SpecOk Try.prog spJ1 := Spec.one_ok glChoose_ok (Spec.one_ok glClicks_ok (Spec.one_ok glFalse_ok (Spec.one_ok glNext_ok (Spec.one_ok glCan_ok (Spec.one_ok glTilt_ok (Spec.one_ok glCheck_ok (Spec.one_ok gSame_ok spB3_ok)))))))

theorem oTo_c (a b : Int) : PCalls Try.prog 44 [.int .i64 a, .int .i64 b] (.agg [.int .i64 a, .int .i64 b]) := by
  refine pcalls_by Try.mixes noSpec_ok (fn := Try.f44) Try.func44 rfl (by kernel_rfl) (by show 2 ≤ _; decide) ?_
  simp (decide := true) (maxSteps := 4000000) only [go_sem, Nat.reduceAdd, Nat.reduceSub, Nat.reduceMul, Nat.reduceDiv, Nat.reduceMod, Nat.reduceLT, Nat.reduceLeDiff, Nat.reduceEqDiff, Nat.reduceBEq, Nat.reduceBNe, Nat.reduceGT, Int.reduceAdd, Int.reduceSub, Int.reduceMul, Int.reduceNeg, Int.reduceLT, Int.reduceLE, Int.reduceEq, Int.reduceNe, Int.reduceBEq, Int.reduceBNe, Int.reduceToNat, Int.reduceGT, Int.reduceGE, ↓reduceIte, decide_true, decide_false, Try.f44]
noncomputable def goTo : List TV → Option TV
  | [.int .i64 a, .int .i64 b] => some (.agg [.int .i64 a, .int .i64 b])
  | _ => none
theorem goTo_ok : ∀ xs r, goTo xs = some r → PCalls Try.prog 44 xs r := by
  intro xs r h
  unfold goTo at h
  split at h
  · cases h; exact oTo_c _ _
  · cases h
attribute [go_sem] goTo
noncomputable def spJ2 : Pm.Spec := spJ1.one 44 goTo
@[go_sem] theorem spJ2_p (f : FuncId) (xs : List TV) : spJ2.p f xs = Pm.Spec.p (spJ1.one 44 goTo) f xs := rfl
@[go_sem] theorem spJ2_h (f : FuncId) (ps : List PV) (hl : List PO) : spJ2.h f ps hl = Pm.Spec.h (spJ1.one 44 goTo) f ps hl := rfl
@[go_sem] theorem spJ2_fz (f : FuncId) : spJ2.fz f = Pm.Spec.fz (spJ1.one 44 goTo) f := rfl
@[go_sem] theorem spJ2_fr (f : FuncId) : spJ2.fr f = Pm.Spec.fr (spJ1.one 44 goTo) f := rfl
@[go_sem] theorem spJ2_mu (t : TypeId) : spJ2.mu t = Pm.Spec.mu (spJ1.one 44 goTo) t := rfl
theorem spJ2_ok : SpecOk Try.prog spJ2 := Spec.one_ok goTo_ok spJ1_ok
theorem oVial_c : PCalls Try.prog 43 [] exV.t := by
  refine pcalls_by Try.mixes spJ2_ok (fn := Try.f43) Try.func43 rfl (by kernel_rfl) (by show 0 ≤ _; decide) ?_
  simp (decide := true) (maxSteps := 4000000) only [go_sem, Nat.reduceAdd, Nat.reduceSub, Nat.reduceMul, Nat.reduceDiv, Nat.reduceMod, Nat.reduceLT, Nat.reduceLeDiff, Nat.reduceEqDiff, Nat.reduceBEq, Nat.reduceBNe, Nat.reduceGT, Int.reduceAdd, Int.reduceSub, Int.reduceMul, Int.reduceNeg, Int.reduceLT, Int.reduceLE, Int.reduceEq, Int.reduceNe, Int.reduceBEq, Int.reduceBNe, Int.reduceToNat, Int.reduceGT, Int.reduceGE, ↓reduceIte, decide_true, decide_false, Try.f43, exV, Vial.t, Vial.cs]
theorem oOther_c : PCalls Try.prog 46 [] exO.t := by
  refine pcalls_by Try.mixes spJ2_ok (fn := Try.f46) Try.func46 rfl (by kernel_rfl) (by show 0 ≤ _; decide) ?_
  simp (decide := true) (maxSteps := 4000000) only [go_sem, Nat.reduceAdd, Nat.reduceSub, Nat.reduceMul, Nat.reduceDiv, Nat.reduceMod, Nat.reduceLT, Nat.reduceLeDiff, Nat.reduceEqDiff, Nat.reduceBEq, Nat.reduceBNe, Nat.reduceGT, Int.reduceAdd, Int.reduceSub, Int.reduceMul, Int.reduceNeg, Int.reduceLT, Int.reduceLE, Int.reduceEq, Int.reduceNe, Int.reduceBEq, Int.reduceBNe, Int.reduceToNat, Int.reduceGT, Int.reduceGE, ↓reduceIte, decide_true, decide_false, Try.f46, exO, Vial.t, Vial.cs]
theorem oReadings_c : PCalls Try.prog 45 [] (.sl (exR.flatMap Rd.cs) 3 true) := by
  refine pcalls_by Try.mixes spJ2_ok (fn := Try.f45) Try.func45 rfl (by kernel_rfl) (by show 0 ≤ _; decide) ?_
  simp (decide := true) (maxSteps := 4000000) only [go_sem, Nat.reduceAdd, Nat.reduceSub, Nat.reduceMul, Nat.reduceDiv, Nat.reduceMod, Nat.reduceLT, Nat.reduceLeDiff, Nat.reduceEqDiff, Nat.reduceBEq, Nat.reduceBNe, Nat.reduceGT, Int.reduceAdd, Int.reduceSub, Int.reduceMul, Int.reduceNeg, Int.reduceLT, Int.reduceLE, Int.reduceEq, Int.reduceNe, Int.reduceBEq, Int.reduceBNe, Int.reduceToNat, Int.reduceGT, Int.reduceGE, ↓reduceIte, decide_true, decide_false, Try.f45, exR, Rd.cs, List.flatMap_cons, List.flatMap_nil]
noncomputable def goVial : List TV → Option TV
  | [] => some (exV.t)
  | _ => none
theorem goVial_ok : ∀ xs r, goVial xs = some r → PCalls Try.prog 43 xs r := by
  intro xs r h
  unfold goVial at h
  split at h
  · cases h; exact oVial_c
  · cases h
attribute [go_sem] goVial
noncomputable def goOther : List TV → Option TV
  | [] => some (exO.t)
  | _ => none
theorem goOther_ok : ∀ xs r, goOther xs = some r → PCalls Try.prog 46 xs r := by
  intro xs r h
  unfold goOther at h
  split at h
  · cases h; exact oOther_c
  · cases h
attribute [go_sem] goOther
noncomputable def goReadings : List TV → Option TV
  | [] => some (.sl (exR.flatMap Rd.cs) 3 true)
  | _ => none
theorem goReadings_ok : ∀ xs r, goReadings xs = some r → PCalls Try.prog 45 xs r := by
  intro xs r h
  unfold goReadings at h
  split at h
  · cases h; exact oReadings_c
  · cases h
attribute [go_sem] goReadings
noncomputable def spJ3 : Pm.Spec := ((spJ2.one 43 goVial).one 46 goOther).one 45 goReadings
@[go_sem] theorem spJ3_p (f : FuncId) (xs : List TV) : spJ3.p f xs = Pm.Spec.p (((spJ2.one 43 goVial).one 46 goOther).one 45 goReadings) f xs := rfl
@[go_sem] theorem spJ3_h (f : FuncId) (ps : List PV) (hl : List PO) : spJ3.h f ps hl = Pm.Spec.h (((spJ2.one 43 goVial).one 46 goOther).one 45 goReadings) f ps hl := rfl
@[go_sem] theorem spJ3_fz (f : FuncId) : spJ3.fz f = Pm.Spec.fz (((spJ2.one 43 goVial).one 46 goOther).one 45 goReadings) f := rfl
@[go_sem] theorem spJ3_fr (f : FuncId) : spJ3.fr f = Pm.Spec.fr (((spJ2.one 43 goVial).one 46 goOther).one 45 goReadings) f := rfl
@[go_sem] theorem spJ3_mu (t : TypeId) : spJ3.mu t = Pm.Spec.mu (((spJ2.one 43 goVial).one 46 goOther).one 45 goReadings) t := rfl
theorem spJ3_ok : SpecOk Try.prog spJ3 := Spec.one_ok goReadings_ok (Spec.one_ok goOther_ok (Spec.one_ok goVial_ok spJ2_ok))
theorem ex1 : canP ⟨40, 16, 20, 50, 52, 38, 42, 1⟩ [⟨14, 32, false⟩, ⟨9, 27, true⟩] 50 40 250 = (true, 0) := by decide +kernel
theorem ex2 : tiltR ⟨40, 16, 20, 50, 52, 38, 42, 1⟩ [⟨14, 32, false⟩, ⟨9, 27, true⟩] = ⟨⟨200, 312⟩, ⟨40, 42⟩, 0⟩ := by decide +kernel
theorem ex3 : falseP ⟨40, 16, 20, 50, 52, 38, 42, 1⟩ [⟨14, 32, false⟩, ⟨9, 27, true⟩, ⟨5, 23, true⟩] = (.sl (ints [1, 2]) 2 false, 0) := by rfl
theorem ex4 : nextP ⟨40, 16, 20, 50, 52, 38, 42, 1⟩ [⟨14, 32, false⟩] = (true, 118, 0) := by decide +kernel
theorem ex5 : clicksP ⟨200, 312⟩ 20 60 = (-13, 0) := by decide +kernel
theorem ex6 : chooseP [⟨40, 16, 20, 50, 52, 38, 42, 1⟩, ⟨60, 20, 24, 20, 20, 58, 62, 1⟩] [30, 40] 600 300 = (1, 0) := by decide +kernel
theorem oWorks_c : PCalls Try.prog 22 [] (.bool true) := by
  refine pcalls_by Try.mixes spJ3_ok (fn := Try.f22) Try.func22 rfl (by kernel_rfl) (by show 0 ≤ _; decide) ?_
  simp (decide := true) (maxSteps := 4000000) only [go_sem, Nat.reduceAdd, Nat.reduceSub, Nat.reduceMul, Nat.reduceDiv, Nat.reduceMod, Nat.reduceLT, Nat.reduceLeDiff, Nat.reduceEqDiff, Nat.reduceBEq, Nat.reduceBNe, Nat.reduceGT, Int.reduceAdd, Int.reduceSub, Int.reduceMul, Int.reduceNeg, Int.reduceLT, Int.reduceLE, Int.reduceEq, Int.reduceNe, Int.reduceBEq, Int.reduceBNe, Int.reduceToNat, Int.reduceGT, Int.reduceGE, ↓reduceIte, decide_true, decide_false, eq_self, Nat.mul_one, Nat.zero_mul, Nat.one_mul, Int.le_refl, Nat.le_refl, Int.cast_ofNat_Int, Try.f22, exV, exO, exR, Vial.t, Vial.cs, Rd.cs, List.flatMap_cons, List.flatMap_nil, ex1, ex2, ex3, ex4, ex5, ex6, TE.t, Span.t, Span.cs, unRds, unVials, unI, ints, List.map_cons, List.map_nil]
end Go.Proofs.Ytgofljmnlfnlnaa

/- Part Lk. -/
namespace Go.Proofs.Ytgofljmnlfnlnaa
open Go.RowKit Go.Pm Go.Oc
set_option maxRecDepth 100000
set_option linter.unusedVariables false
set_option maxHeartbeats 4000000

theorem rClicks_c (t : Span) (worth bound : Int) : PCalls Try.prog 29 [t.t, .int .i64 worth, .int .i64 bound] (.tup [.int .i64 (clicksP t worth bound).1, .int .i64 (clicksP t worth bound).2]) := by
  refine pcalls_by Try.mixes spB3_ok (fn := Try.f29) Try.func29 rfl (by kernel_rfl) (by show 3 ≤ _; decide) ?_
  unfold clicksP
  cases h1 : spannedB t (-1000000) 1000000 with
  | false => simp (decide := true) (maxSteps := 4000000) only [go_sem, Nat.reduceAdd, Nat.reduceSub, Nat.reduceMul, Nat.reduceDiv, Nat.reduceMod, Nat.reduceLT, Nat.reduceLeDiff, Nat.reduceEqDiff, Nat.reduceBEq, Nat.reduceBNe, Nat.reduceGT, Int.reduceAdd, Int.reduceSub, Int.reduceMul, Int.reduceNeg, Int.reduceLT, Int.reduceLE, Int.reduceEq, Int.reduceNe, Int.reduceBEq, Int.reduceBNe, Int.reduceToNat, Int.reduceGT, Int.reduceGE, ↓reduceIte, decide_true, decide_false, Try.f29, Span.t, Span.cs, h1]
  | true =>
    cases h2 : inB worth 1 100 with
    | false => simp (decide := true) (maxSteps := 4000000) only [go_sem, Nat.reduceAdd, Nat.reduceSub, Nat.reduceMul, Nat.reduceDiv, Nat.reduceMod, Nat.reduceLT, Nat.reduceLeDiff, Nat.reduceEqDiff, Nat.reduceBEq, Nat.reduceBNe, Nat.reduceGT, Int.reduceAdd, Int.reduceSub, Int.reduceMul, Int.reduceNeg, Int.reduceLT, Int.reduceLE, Int.reduceEq, Int.reduceNe, Int.reduceBEq, Int.reduceBNe, Int.reduceToNat, Int.reduceGT, Int.reduceGE, ↓reduceIte, decide_true, decide_false, Try.f29, Span.t, Span.cs, h1, h2]
    | true =>
      cases h3 : inB bound 0 1000000 with
      | false => simp (decide := true) (maxSteps := 4000000) only [go_sem, Nat.reduceAdd, Nat.reduceSub, Nat.reduceMul, Nat.reduceDiv, Nat.reduceMod, Nat.reduceLT, Nat.reduceLeDiff, Nat.reduceEqDiff, Nat.reduceBEq, Nat.reduceBNe, Nat.reduceGT, Int.reduceAdd, Int.reduceSub, Int.reduceMul, Int.reduceNeg, Int.reduceLT, Int.reduceLE, Int.reduceEq, Int.reduceNe, Int.reduceBEq, Int.reduceBNe, Int.reduceToNat, Int.reduceGT, Int.reduceGE, ↓reduceIte, decide_true, decide_false, Try.f29, Span.t, Span.cs, h1, h2, h3]
      | true =>
        have h1' := h1
        have h2' := inB_iff.1 h2
        have h3' := inB_iff.1 h3
        simp only [spannedB, Bool.and_eq_true, decide_eq_true_eq] at h1'
        have w0 : IntKind.i64.wrap (0 - bound) = -bound := by rw [wrap_in (by omega) (by omega)]; omega
        have w1 : IntKind.i64.wrap (-bound - t.lo) = -bound - t.lo := wrap_in (by omega) (by omega)
        have w2 : IntKind.i64.wrap (bound - t.hi) = bound - t.hi := wrap_in (by omega) (by omega)
        have c0 : 0 < worth ∧ worth ≤ 4000000000000000000 := by omega
        have c1 : -4000000000000000000 ≤ -bound - t.lo ∧ -bound - t.lo ≤ 4000000000000000000 := by omega
        have c2 : -4000000000000000000 ≤ bound - t.hi ∧ bound - t.hi ≤ 4000000000000000000 := by omega
        by_cases g1 : -((-(-bound - t.lo)) / worth) > (bound - t.hi) / worth
        · simp (decide := true) (maxSteps := 4000000) only [go_sem, Nat.reduceAdd, Nat.reduceSub, Nat.reduceMul, Nat.reduceDiv, Nat.reduceMod, Nat.reduceLT, Nat.reduceLeDiff, Nat.reduceEqDiff, Nat.reduceBEq, Nat.reduceBNe, Nat.reduceGT, Int.reduceAdd, Int.reduceSub, Int.reduceMul, Int.reduceNeg, Int.reduceLT, Int.reduceLE, Int.reduceEq, Int.reduceNe, Int.reduceBEq, Int.reduceBNe, Int.reduceToNat, Int.reduceGT, Int.reduceGE, ↓reduceIte, decide_true, decide_false, Try.f29, Span.t, Span.cs, h1, h2, h3, w0, w1, w2, c0, c1, c2, g1]
        · by_cases g2 : -((-(-bound - t.lo)) / worth) > 0
          · simp (decide := true) (maxSteps := 4000000) only [go_sem, Nat.reduceAdd, Nat.reduceSub, Nat.reduceMul, Nat.reduceDiv, Nat.reduceMod, Nat.reduceLT, Nat.reduceLeDiff, Nat.reduceEqDiff, Nat.reduceBEq, Nat.reduceBNe, Nat.reduceGT, Int.reduceAdd, Int.reduceSub, Int.reduceMul, Int.reduceNeg, Int.reduceLT, Int.reduceLE, Int.reduceEq, Int.reduceNe, Int.reduceBEq, Int.reduceBNe, Int.reduceToNat, Int.reduceGT, Int.reduceGE, ↓reduceIte, decide_true, decide_false, Try.f29, Span.t, Span.cs, h1, h2, h3, w0, w1, w2, c0, c1, c2, g1, g2]
          · by_cases g3 : (bound - t.hi) / worth < 0
            · simp (decide := true) (maxSteps := 4000000) only [go_sem, Nat.reduceAdd, Nat.reduceSub, Nat.reduceMul, Nat.reduceDiv, Nat.reduceMod, Nat.reduceLT, Nat.reduceLeDiff, Nat.reduceEqDiff, Nat.reduceBEq, Nat.reduceBNe, Nat.reduceGT, Int.reduceAdd, Int.reduceSub, Int.reduceMul, Int.reduceNeg, Int.reduceLT, Int.reduceLE, Int.reduceEq, Int.reduceNe, Int.reduceBEq, Int.reduceBNe, Int.reduceToNat, Int.reduceGT, Int.reduceGE, ↓reduceIte, decide_true, decide_false, Try.f29, Span.t, Span.cs, h1, h2, h3, w0, w1, w2, c0, c1, c2, g1, g2, g3]
              omega
            · simp (decide := true) (maxSteps := 4000000) only [go_sem, Nat.reduceAdd, Nat.reduceSub, Nat.reduceMul, Nat.reduceDiv, Nat.reduceMod, Nat.reduceLT, Nat.reduceLeDiff, Nat.reduceEqDiff, Nat.reduceBEq, Nat.reduceBNe, Nat.reduceGT, Int.reduceAdd, Int.reduceSub, Int.reduceMul, Int.reduceNeg, Int.reduceLT, Int.reduceLE, Int.reduceEq, Int.reduceNe, Int.reduceBEq, Int.reduceBNe, Int.reduceToNat, Int.reduceGT, Int.reduceGE, ↓reduceIte, decide_true, decide_false, Try.f29, Span.t, Span.cs, h1, h2, h3, w0, w1, w2, c0, c1, c2, g1, g2, g3]
              omega
noncomputable def grClicks : List TV → Option TV
  | [.agg [.int .i64 a, .int .i64 b], .int .i64 w, .int .i64 c] => some (.tup [.int .i64 (clicksP ⟨a, b⟩ w c).1, .int .i64 (clicksP ⟨a, b⟩ w c).2])
  | _ => none
theorem grClicks_ok : ∀ xs r, grClicks xs = some r → PCalls Try.prog 29 xs r := by
  intro xs r h
  unfold grClicks at h
  split at h
  · cases h; exact rClicks_c ⟨_, _⟩ _ _
  · cases h
attribute [go_sem] grClicks
noncomputable def goWorks : List TV → Option TV
  | [] => some (.bool true)
  | _ => none
theorem goWorks_ok : ∀ xs r, goWorks xs = some r → PCalls Try.prog 22 xs r := by
  intro xs r h
  unfold goWorks at h
  split at h
  · cases h; exact oWorks_c
  · cases h
attribute [go_sem] goWorks
noncomputable def spK1 : Pm.Spec := (spJ3.one 22 goWorks).one 29 grClicks
@[go_sem] theorem spK1_p (f : FuncId) (xs : List TV) : spK1.p f xs = Pm.Spec.p ((spJ3.one 22 goWorks).one 29 grClicks) f xs := rfl
@[go_sem] theorem spK1_h (f : FuncId) (ps : List PV) (hl : List PO) : spK1.h f ps hl = Pm.Spec.h ((spJ3.one 22 goWorks).one 29 grClicks) f ps hl := rfl
@[go_sem] theorem spK1_fz (f : FuncId) : spK1.fz f = Pm.Spec.fz ((spJ3.one 22 goWorks).one 29 grClicks) f := rfl
@[go_sem] theorem spK1_fr (f : FuncId) : spK1.fr f = Pm.Spec.fr ((spJ3.one 22 goWorks).one 29 grClicks) f := rfl
@[go_sem] theorem spK1_mu (t : TypeId) : spK1.mu t = Pm.Spec.mu ((spJ3.one 22 goWorks).one 29 grClicks) t := rfl
theorem spK1_ok : SpecOk Try.prog spK1 := Spec.one_ok grClicks_ok (Spec.one_ok goWorks_ok spJ3_ok)
theorem LevelClicks_c (t : Span) (w c : Int) : PCalls Try.prog 6 [t.t, .int .i64 w, .int .i64 c] (.bool true) := by
  refine pcalls_by Try.mixes spK1_ok (fn := Try.f6) Try.func6 rfl (by kernel_rfl) (by show 3 ≤ _; decide) ?_
  simp (decide := true) (maxSteps := 4000000) only [go_sem, Nat.reduceAdd, Nat.reduceSub, Nat.reduceMul, Nat.reduceDiv, Nat.reduceMod, Nat.reduceLT, Nat.reduceLeDiff, Nat.reduceEqDiff, Nat.reduceBEq, Nat.reduceBNe, Nat.reduceGT, Int.reduceAdd, Int.reduceSub, Int.reduceMul, Int.reduceNeg, Int.reduceLT, Int.reduceLE, Int.reduceEq, Int.reduceNe, Int.reduceBEq, Int.reduceBNe, Int.reduceToNat, Int.reduceGT, Int.reduceGE, ↓reduceIte, decide_true, decide_false, eq_self, Nat.mul_one, Nat.zero_mul, Nat.one_mul, Int.le_refl, Nat.le_refl, Int.cast_ofNat_Int, Try.f6, Span.t, Span.cs, beq_self_eq_true]
end Go.Proofs.Ytgofljmnlfnlnaa

/- Part Md. -/
namespace Go.Proofs.Ytgofljmnlfnlnaa
open Go.RowKit Go.Pm Go.Oc
set_option maxRecDepth 100000
set_option linter.unusedVariables false

theorem int_cells {k : Nat} {cs : List TV} (h : cellsOk Try.prog (k + 1) 3 cs) : ∃ n, cs = [.int .i64 n] ∧ In64 n := cellsOk_i64 (by kernel_rfl) h
theorem bool_cells {k : Nat} {cs : List TV} (h : cellsOk Try.prog (k + 1) 4 cs) : ∃ b, cs = [.bool b] := cellsOk_boolT (by kernel_rfl) h
theorem span_cells {k : Nat} {cs : List TV} (h : cellsOk Try.prog (k + 2) 23 cs) : ∃ s : Span, cs = s.cs ∧ In64 s.lo ∧ In64 s.hi := by
  have h := cellsOk_tys (ts := [3, 3]) (by kernel_rfl) h
  obtain ⟨_, r, rfl, h1, h⟩ := seqOk_cons h
  obtain ⟨_, r, rfl, h2, h⟩ := seqOk_cons h
  cases seqOk_nil h
  obtain ⟨a, rfl, ha⟩ := int_cells h1
  obtain ⟨b, rfl, hb⟩ := int_cells h2
  exact ⟨⟨a, b⟩, rfl, ha, hb⟩
theorem vial_cells {k : Nat} {cs : List TV} (h : cellsOk Try.prog (k + 3) 25 cs) : ∃ v : Vial, cs = v.cs ∧ (In64 v.marks ∧ In64 v.l0 ∧ In64 v.l1 ∧ In64 v.v0 ∧ In64 v.v1 ∧ In64 v.z0 ∧ In64 v.z1 ∧ In64 v.wr) := by
  have h := cellsOk_tys (ts := [3, 23, 23, 23, 3]) (by kernel_rfl) h
  obtain ⟨_, r, rfl, h1, h⟩ := seqOk_cons h
  obtain ⟨_, r, rfl, h2, h⟩ := seqOk_cons h
  obtain ⟨_, r, rfl, h3, h⟩ := seqOk_cons h
  obtain ⟨_, r, rfl, h4, h⟩ := seqOk_cons h
  obtain ⟨_, r, rfl, h5, h⟩ := seqOk_cons h
  cases seqOk_nil h
  obtain ⟨m, rfl, im⟩ := int_cells h1
  obtain ⟨a, rfl, ia, ia'⟩ := span_cells h2
  obtain ⟨b, rfl, ib, ib'⟩ := span_cells h3
  obtain ⟨c, rfl, ic, ic'⟩ := span_cells h4
  obtain ⟨g, rfl, ig⟩ := int_cells h5
  exact ⟨⟨m, a.lo, a.hi, b.lo, b.hi, c.lo, c.hi, g⟩, rfl, im, ia, ia', ib, ib', ic, ic', ig⟩
theorem rd_cells {k : Nat} {cs : List TV} (h : cellsOk Try.prog (k + 2) 57 cs) : ∃ r : Rd, cs = r.cs ∧ In64 r.left ∧ In64 r.right := by
  have h := cellsOk_tys (ts := [3, 3, 4]) (by kernel_rfl) h
  obtain ⟨_, r, rfl, h1, h⟩ := seqOk_cons h
  obtain ⟨_, r, rfl, h2, h⟩ := seqOk_cons h
  obtain ⟨_, r, rfl, h3, h⟩ := seqOk_cons h
  cases seqOk_nil h
  obtain ⟨a, rfl, ia⟩ := int_cells h1
  obtain ⟨b, rfl, ib⟩ := int_cells h2
  obtain ⟨c, rfl⟩ := bool_cells h3
  exact ⟨⟨a, b, c⟩, rfl, ia, ib⟩
theorem spanArg {x : TV} (h : argOk Try.prog 23 x) : ∃ s : Span, x = s.t ∧ In64 s.lo ∧ In64 s.hi := by
  obtain ⟨cs, rfl, h'⟩ := argOk_agg (ts := [3, 3]) (by kernel_rfl) h
  obtain ⟨s, rfl, h''⟩ := span_cells h'
  exact ⟨s, rfl, h''⟩
theorem intArg {x : TV} (h : argOk Try.prog 3 x) : ∃ n, x = .int .i64 n ∧ In64 n := argOk_i64 (by kernel_rfl) h
theorem vialArg {x : TV} (h : argOk Try.prog 25 x) : ∃ v : Vial, x = v.t := by
  obtain ⟨cs, rfl, h'⟩ := argOk_agg (ts := [3, 23, 23, 23, 3]) (by kernel_rfl) h
  obtain ⟨s, rfl, _⟩ := vial_cells h'
  exact ⟨s, rfl⟩
theorem rdArg {x : TV} (h : argOk Try.prog 57 x) : ∃ r : Rd, x = .agg r.cs ∧ In64 r.left ∧ In64 r.right := by
  obtain ⟨cs, rfl, h'⟩ := argOk_agg (ts := [3, 3, 4]) (by kernel_rfl) h
  obtain ⟨s, rfl, h''⟩ := rd_cells h'
  exact ⟨s, rfl, h''⟩
theorem truthArg {x : TV} (h : argOk Try.prog 28 x) : ∃ a b c, x = .agg [.int .i64 a, .int .i64 b, .int .i64 c] ∧ In64 a ∧ In64 b ∧ In64 c := by
  obtain ⟨cs, rfl, h'⟩ := argOk_agg (ts := [3, 3, 3]) (by kernel_rfl) h
  have h := cellsOk_tys (ts := [3, 3, 3]) (by kernel_rfl) h'
  obtain ⟨_, r, rfl, h1, h⟩ := seqOk_cons h
  obtain ⟨_, r, rfl, h2, h⟩ := seqOk_cons h
  obtain ⟨_, r, rfl, h3, h⟩ := seqOk_cons h
  cases seqOk_nil h
  obtain ⟨a, rfl, ia⟩ := int_cells h1
  obtain ⟨b, rfl, ib⟩ := int_cells h2
  obtain ⟨c, rfl, ic⟩ := int_cells h3
  exact ⟨a, b, c, rfl, ia, ib, ic⟩
theorem pairOf {t : TypeId} (ht : tysOf Try.prog t = some [3, 3]) {x : TV} (h : argOk Try.prog t x) : ∃ a b, x = .agg [.int .i64 a, .int .i64 b] ∧ In64 a ∧ In64 b := by
  obtain ⟨cs, rfl, h'⟩ := argOk_agg ht h
  have h := cellsOk_tys ht h'
  obtain ⟨_, r, rfl, h1, h⟩ := seqOk_cons h
  obtain ⟨_, r, rfl, h2, h⟩ := seqOk_cons h
  cases seqOk_nil h
  obtain ⟨a, rfl, ia⟩ := int_cells h1
  obtain ⟨b, rfl, ib⟩ := int_cells h2
  exact ⟨a, b, rfl, ia, ib⟩
theorem pairArg {x : TV} (h : argOk Try.prog 55 x) : ∃ a b, x = .agg [.int .i64 a, .int .i64 b] ∧ In64 a ∧ In64 b := pairOf (by kernel_rfl) h
theorem wishArg {x : TV} (h : argOk Try.prog 49 x) : ∃ a b, x = .agg [.int .i64 a, .int .i64 b] ∧ In64 a ∧ In64 b := pairOf (by kernel_rfl) h
theorem fiveArg {x : TV} (h : argOk Try.prog 69 x) : ∃ a b c d e, x = .agg [.int .i64 a, .int .i64 b, .int .i64 c, .int .i64 d, .int .i64 e] ∧ In64 a ∧ In64 b ∧ In64 c ∧ In64 d ∧ In64 e := by
  have ht : tysOf Try.prog 69 = some [3, 3, 3, 3, 3] := by kernel_rfl
  obtain ⟨cs, rfl, h'⟩ := argOk_agg ht h
  have h := cellsOk_tys ht h'
  obtain ⟨_, r, rfl, h1, h⟩ := seqOk_cons h
  obtain ⟨_, r, rfl, h2, h⟩ := seqOk_cons h
  obtain ⟨_, r, rfl, h3, h⟩ := seqOk_cons h
  obtain ⟨_, r, rfl, h4, h⟩ := seqOk_cons h
  obtain ⟨_, r, rfl, h5, h⟩ := seqOk_cons h
  cases seqOk_nil h
  obtain ⟨a, rfl, ia⟩ := int_cells h1
  obtain ⟨b, rfl, ib⟩ := int_cells h2
  obtain ⟨c, rfl, ic⟩ := int_cells h3
  obtain ⟨d, rfl, id⟩ := int_cells h4
  obtain ⟨e, rfl, ie⟩ := int_cells h5
  exact ⟨a, b, c, d, e, rfl, ia, ib, ic, id, ie⟩
theorem rdsArg {x : TV} (h : argOk Try.prog 26 x) : ∃ l : List Rd, IsRow Rd.cs x l ∧ l.length ≤ 5864062014634 ∧ ∀ r ∈ l, In64 r.left ∧ In64 r.right := by
  obtain ⟨l, h1, h2, h3, _⟩ := cellsOk_row (e := 57) (c := Rd.cs) (k := 19) (by kernel_rfl) (fun cs hc => rd_cells hc) (argOk_sl (e := 57) (by kernel_rfl) h)
  rw [show Program.bytesOf Try.prog 57 = 24 by kernel_rfl] at h3
  unfold reachBytes at h3
  exact ⟨l, h1, by omega, h2⟩
theorem vialsArg {x : TV} (h : argOk Try.prog 47 x) : ∃ l : List Vial, IsRow Vial.cs x l ∧ l.length ≤ 2199023255551 := by
  obtain ⟨l, h1, h2, h3, _⟩ := cellsOk_row (e := 25) (c := Vial.cs) (k := 19) (by kernel_rfl) (fun cs hc => vial_cells hc) (argOk_sl (e := 25) (by kernel_rfl) h)
  rw [show Program.bytesOf Try.prog 25 = 64 by kernel_rfl] at h3
  unfold reachBytes at h3
  exact ⟨l, h1, by omega⟩
theorem intsArg {x : TV} (h : argOk Try.prog 37 x) : ∃ l : List Int, IsRow ic x l ∧ l.length ≤ 17592186044415 := by
  obtain ⟨l, h1, h2, h3, _⟩ := cellsOk_row (e := 3) (c := ic) (k := 19) (p := fun n => In64 n) (by kernel_rfl) (fun cs hc => int_cells hc) (argOk_sl (e := 3) (by kernel_rfl) h)
  rw [show Program.bytesOf Try.prog 3 = 8 by kernel_rfl] at h3
  unfold reachBytes at h3
  exact ⟨l, h1, by omega⟩
end Go.Proofs.Ytgofljmnlfnlnaa

/- Part Mj. -/
namespace Go.Oc
open Go Go.Pm Go.Proofs.Ytgofljmnlfnlnaa
theorem asked30 {v : Vial} (l : List Rd) (h : v.ok = false) : asked v l = 30 := by unfold asked; simp [h]
theorem can30 {v : Vial} {l : List Rd} {a b c : Int} (h : v.ok = false) : canP v l a b c = (false, 30) := by unfold canP; rw [asked30 l h]; rfl
theorem tilt30 {v : Vial} {l : List Rd} (h : v.ok = false) : tiltR v l = ⟨⟨0, 0⟩, ⟨0, 0⟩, 30⟩ := by unfold tiltR; rw [asked30 l h]; rfl
theorem next30 {v : Vial} {l : List Rd} (h : v.ok = false) : nextP v l = (false, 0, 30) := by unfold nextP; rw [asked30 l h]; rfl
theorem false30 {v : Vial} {l : List Rd} (h : v.ok = false) : falseP v l = (.nilSl, 30) := by unfold falseP; rw [asked30 l h]; rfl
theorem asked31 {v : Vial} {l : List Rd} (h : v.ok = true) (h2 : rdsOk v l = false) : asked v l = 31 := by unfold asked; simp [h, h2]
theorem can31 {v : Vial} {l : List Rd} {a b c : Int} (h : v.ok = true) (h2 : rdsOk v l = false) : canP v l a b c = (false, 31) := by unfold canP; rw [asked31 h h2]; rfl
theorem tilt31 {v : Vial} {l : List Rd} (h : v.ok = true) (h2 : rdsOk v l = false) : tiltR v l = ⟨⟨0, 0⟩, ⟨0, 0⟩, 31⟩ := by unfold tiltR; rw [asked31 h h2]; rfl
theorem next31 {v : Vial} {l : List Rd} (h : v.ok = true) (h2 : rdsOk v l = false) : nextP v l = (false, 0, 31) := by unfold nextP; rw [asked31 h h2]; rfl
theorem false31 {v : Vial} {l : List Rd} (h : v.ok = true) (h2 : rdsOk v l = false) : falseP v l = (.nilSl, 31) := by unfold falseP; rw [asked31 h h2]; rfl
end Go.Oc
namespace Go.Proofs.Ytgofljmnlfnlnaa
open Go.RowKit Go.Pm Go.Oc
set_option maxRecDepth 100000
set_option linter.unusedVariables false
set_option maxHeartbeats 8000000

noncomputable def spZ1 : Pm.Spec := { spK1 with mu := fun t => t == 47, fr := fun f => f == 30 }
theorem spZ1_ok : SpecOk Try.prog spZ1 := ⟨spK1_ok.1, spK1_ok.2⟩
@[go_sem] theorem spZ1_p (f : FuncId) (xs : List TV) : spZ1.p f xs = spK1.p f xs := rfl
@[go_sem] theorem spZ1_h (f : FuncId) (ps : List PV) (hl : List PO) : spZ1.h f ps hl = spK1.h f ps hl := rfl
@[go_sem] theorem spZ1_fz (f : FuncId) : spZ1.fz f = spK1.fz f := rfl
@[go_sem] theorem spZ1_fr (f : FuncId) : spZ1.fr f = (f == 30) := rfl
@[go_sem] theorem spZ1_mu (t : TypeId) : spZ1.mu t = (t == 47) := rfl
attribute [local go_sem] popM
theorem LevelKnown_c : PCalls Try.prog 15 [] (.bool true) := by
  have o1 : Vial.ok ⟨0, 0, 0, 0, 0, 0, 0, 0⟩ = false := by decide
  have o2 : Vial.ok ⟨201, 16, 20, 50, 52, 38, 42, 1⟩ = false := by decide
  have o3 : Vial.ok ⟨40, 20, 16, 50, 52, 38, 42, 1⟩ = false := by decide
  have o4 : Vial.ok ⟨40, 16, 20, 0, 52, 38, 42, 1⟩ = false := by decide
  have o5 : Vial.ok ⟨40, 16, 20, 50, 52, 38, 81, 1⟩ = false := by decide
  have o6 : Vial.ok ⟨40, 16, 20, 50, 52, 38, 42, 9⟩ = false := by decide
  have ov : Vial.ok ⟨40, 16, 20, 50, 52, 38, 42, 1⟩ = true := by decide
  have hun : unRds [] = some [] := rfl
  have q0 : rdsOk ⟨40, 16, 20, 50, 52, 38, 42, 1⟩ [] = false := by decide
  have q1 : rdsOk ⟨40, 16, 20, 50, 52, 38, 42, 1⟩ [⟨0, 0, false⟩, ⟨0, 0, false⟩, ⟨0, 0, false⟩, ⟨0, 0, false⟩, ⟨0, 0, false⟩, ⟨0, 0, false⟩, ⟨0, 0, false⟩, ⟨0, 0, false⟩, ⟨0, 0, false⟩] = false := by decide
  have q2 : rdsOk ⟨40, 16, 20, 50, 52, 38, 42, 1⟩ [⟨14, 14, false⟩] = false := by decide
  have q3 : rdsOk ⟨40, 16, 20, 50, 52, 38, 42, 1⟩ [⟨-1, 17, false⟩] = false := by decide
  have q4 : rdsOk ⟨40, 16, 20, 50, 52, 38, 42, 1⟩ [⟨23, 41, false⟩] = false := by decide
  have q5 : rdsOk ⟨40, 16, 20, 50, 52, 38, 42, 1⟩ [⟨14, 28, false⟩] = false := by decide
  have q6 : rdsOk ⟨40, 16, 20, 50, 52, 38, 42, 1⟩ [⟨14, 36, false⟩] = false := by decide
  have s1 : canP ⟨40, 16, 20, 50, 52, 38, 42, 1⟩ [⟨14, 32, false⟩, ⟨9, 27, true⟩, ⟨5, 23, true⟩] 53 40 0 = (false, 32) := by decide +kernel
  have s2 : canP ⟨40, 16, 20, 50, 52, 38, 42, 1⟩ [⟨14, 32, false⟩, ⟨9, 27, true⟩, ⟨5, 23, true⟩] 50 43 0 = (false, 32) := by decide +kernel
  have s3 : tiltR ⟨40, 16, 20, 50, 52, 38, 42, 1⟩ [⟨14, 32, false⟩, ⟨9, 27, true⟩, ⟨5, 23, true⟩] = ⟨⟨0, 0⟩, ⟨0, 0⟩, 33⟩ := by decide +kernel
  have s5 : nextP ⟨40, 16, 20, 50, 52, 38, 42, 1⟩ [⟨14, 32, false⟩, ⟨14, 32, false⟩, ⟨14, 32, false⟩, ⟨14, 32, false⟩, ⟨14, 32, false⟩, ⟨14, 32, false⟩, ⟨14, 32, false⟩, ⟨14, 32, false⟩] = (false, 0, 6) := by decide +kernel
  have s6 : nextP ⟨40, 16, 20, 50, 52, 38, 42, 1⟩ [⟨14, 32, false⟩, ⟨9, 27, true⟩, ⟨5, 23, true⟩] = (false, 0, 33) := by decide +kernel
  have s7 : clicksP ⟨5, 4⟩ 20 60 = (0, 7) := by decide +kernel
  have s8 : clicksP ⟨4, 5⟩ 0 60 = (0, 7) := by decide +kernel
  have s9 : clicksP ⟨4, 5⟩ 101 60 = (0, 7) := by decide +kernel
  have s10 : clicksP ⟨4, 5⟩ 20 (-1) = (0, 7) := by decide +kernel
  have s11 : clicksP ⟨200, 312⟩ 20 50 = (0, 4) := by decide +kernel
  have s12 : chooseP [] [] 0 0 = (0, 34) := by decide +kernel
  have s13 : chooseP [⟨40, 16, 20, 50, 52, 38, 42, 1⟩, ⟨60, 20, 24, 20, 20, 58, 62, 1⟩] [30] 0 0 = (0, 34) := by decide +kernel
  have s14 : chooseP [⟨40, 16, 20, 50, 52, 38, 42, 1⟩, ⟨60, 20, 24, 20, 20, 58, 62, 1⟩] [30, 1001] 0 0 = (0, 34) := by decide +kernel
  have s15 : chooseP [⟨40, 16, 20, 50, 52, 38, 42, 1⟩, ⟨60, 20, 24, 20, 20, 58, 62, 1⟩] [30, 40] (-1) 0 = (0, 34) := by decide +kernel
  have s16 : chooseP [⟨40, 16, 20, 50, 52, 38, 42, 1⟩, ⟨60, 20, 24, 20, 20, 58, 62, 1⟩] [30, 40] 800 300 = (0, 4) := by decide +kernel
  have s17 : chooseP [⟨40, 16, 20, 50, 52, 38, 42, 1⟩, ⟨60, 20, 24, 20, 20, 58, 62, 1⟩] [30, 40] 800 400 = (0, 0) := by decide +kernel
  have s18 : tiltR ⟨40, 16, 20, 50, 52, 38, 42, 1⟩ [⟨14, 32, false⟩] = ⟨⟨150, 468⟩, ⟨38, 42⟩, 0⟩ := by decide +kernel
  have s19 : canP ⟨40, 16, 20, 50, 52, 38, 42, 1⟩ [⟨14, 32, false⟩, ⟨9, 27, true⟩] 50 40 251 = (false, 0) := by decide +kernel
  have s20 : clicksP ⟨-90, -70⟩ 20 60 = (2, 0) := by decide +kernel
  have s21 : clicksP ⟨-60, 60⟩ 20 60 = (0, 0) := by decide +kernel
  have s4 : falseP ⟨40, 16, 20, 50, 52, 38, 42, 1⟩ [⟨14, 32, false⟩, ⟨9, 27, true⟩] = (.nilSl, 4) := by rfl
  have hunv : unVials [] = some [] := rfl
  have huni : unI [] = some [] := rfl
  refine pcalls_by Try.mixes spZ1_ok (fn := Try.f15) Try.func15 rfl (by kernel_rfl) (by show 0 ≤ _; decide) ?_
  simp (decide := true) (maxSteps := 4000000) only [go_sem, Nat.reduceAdd, Nat.reduceSub, Nat.reduceMul, Nat.reduceDiv, Nat.reduceMod, Nat.reduceLT, Nat.reduceLeDiff, Nat.reduceEqDiff, Nat.reduceBEq, Nat.reduceBNe, Nat.reduceGT, Int.reduceAdd, Int.reduceSub, Int.reduceMul, Int.reduceNeg, Int.reduceLT, Int.reduceLE, Int.reduceEq, Int.reduceNe, Int.reduceBEq, Int.reduceBNe, Int.reduceToNat, Int.reduceGT, Int.reduceGE, ↓reduceIte, decide_true, decide_false, eq_self, Nat.mul_one, Nat.zero_mul, Nat.one_mul, Int.le_refl, Nat.le_refl, Int.cast_ofNat_Int, Try.f15, exV, Vial.t, Vial.cs]
  refine pwpC_loopU (A := { k : Nat // k ≤ 6 }) [1] (fun k => [(2, .t (.int .i64 (k.1 : Nat)))]) (fun _ => []) (fun k => 6 - k.1) ⟨0, by omega⟩ (by decide) (fun _ => by rfl) ?_ fun Q1 hQ1 ⟨k, hk⟩ I1 hI1 => ?_
  · simp (decide := true) (maxSteps := 4000000) only [go_sem, Nat.reduceAdd, Nat.reduceSub, Nat.reduceMul, Nat.reduceDiv, Nat.reduceMod, Nat.reduceLT, Nat.reduceLeDiff, Nat.reduceEqDiff, Nat.reduceBEq, Nat.reduceBNe, Nat.reduceGT, Int.reduceAdd, Int.reduceSub, Int.reduceMul, Int.reduceNeg, Int.reduceLT, Int.reduceLE, Int.reduceEq, Int.reduceNe, Int.reduceBEq, Int.reduceBNe, Int.reduceToNat, Int.reduceGT, Int.reduceGE, ↓reduceIte, decide_true, decide_false, eq_self, Nat.mul_one, Nat.zero_mul, Nat.one_mul, Int.le_refl, Nat.le_refl, Int.cast_ofNat_Int]
  · rcases (show k = 0 ∨ k = 1 ∨ k = 2 ∨ k = 3 ∨ k = 4 ∨ k = 5 ∨ k = 6 by omega) with rfl | rfl | rfl | rfl | rfl | rfl | rfl
    · simp (decide := true) (maxSteps := 4000000) only [go_sem, Nat.reduceAdd, Nat.reduceSub, Nat.reduceMul, Nat.reduceDiv, Nat.reduceMod, Nat.reduceLT, Nat.reduceLeDiff, Nat.reduceEqDiff, Nat.reduceBEq, Nat.reduceBNe, Nat.reduceGT, Int.reduceAdd, Int.reduceSub, Int.reduceMul, Int.reduceNeg, Int.reduceLT, Int.reduceLE, Int.reduceEq, Int.reduceNe, Int.reduceBEq, Int.reduceBNe, Int.reduceToNat, Int.reduceGT, Int.reduceGE, ↓reduceIte, decide_true, decide_false, eq_self, Nat.mul_one, Nat.zero_mul, Nat.one_mul, Int.le_refl, Nat.le_refl, Int.cast_ofNat_Int, hun, o1, o2, o3, o4, o5, o6, ov, can30 o1, tilt30 o1, next30 o1, false30 o1, can30 o2, tilt30 o2, next30 o2, false30 o2, can30 o3, tilt30 o3, next30 o3, false30 o3, can30 o4, tilt30 o4, next30 o4, false30 o4, can30 o5, tilt30 o5, next30 o5, false30 o5, can30 o6, tilt30 o6, next30 o6, false30 o6, TE.t, Span.t, Span.cs, List.length_nil]
      refine hI1 _ ⟨0 + 1, by omega⟩ (by simp) ?_
      simp (decide := true) (maxSteps := 4000000) only [go_sem, Nat.reduceAdd, Nat.reduceSub, Nat.reduceMul, Nat.reduceDiv, Nat.reduceMod, Nat.reduceLT, Nat.reduceLeDiff, Nat.reduceEqDiff, Nat.reduceBEq, Nat.reduceBNe, Nat.reduceGT, Int.reduceAdd, Int.reduceSub, Int.reduceMul, Int.reduceNeg, Int.reduceLT, Int.reduceLE, Int.reduceEq, Int.reduceNe, Int.reduceBEq, Int.reduceBNe, Int.reduceToNat, Int.reduceGT, Int.reduceGE, ↓reduceIte, decide_true, decide_false, eq_self, Nat.mul_one, Nat.zero_mul, Nat.one_mul, Int.le_refl, Nat.le_refl, Int.cast_ofNat_Int]
    · simp (decide := true) (maxSteps := 4000000) only [go_sem, Nat.reduceAdd, Nat.reduceSub, Nat.reduceMul, Nat.reduceDiv, Nat.reduceMod, Nat.reduceLT, Nat.reduceLeDiff, Nat.reduceEqDiff, Nat.reduceBEq, Nat.reduceBNe, Nat.reduceGT, Int.reduceAdd, Int.reduceSub, Int.reduceMul, Int.reduceNeg, Int.reduceLT, Int.reduceLE, Int.reduceEq, Int.reduceNe, Int.reduceBEq, Int.reduceBNe, Int.reduceToNat, Int.reduceGT, Int.reduceGE, ↓reduceIte, decide_true, decide_false, eq_self, Nat.mul_one, Nat.zero_mul, Nat.one_mul, Int.le_refl, Nat.le_refl, Int.cast_ofNat_Int, hun, o1, o2, o3, o4, o5, o6, ov, can30 o1, tilt30 o1, next30 o1, false30 o1, can30 o2, tilt30 o2, next30 o2, false30 o2, can30 o3, tilt30 o3, next30 o3, false30 o3, can30 o4, tilt30 o4, next30 o4, false30 o4, can30 o5, tilt30 o5, next30 o5, false30 o5, can30 o6, tilt30 o6, next30 o6, false30 o6, TE.t, Span.t, Span.cs, List.length_nil]
      refine hI1 _ ⟨1 + 1, by omega⟩ (by simp) ?_
      simp (decide := true) (maxSteps := 4000000) only [go_sem, Nat.reduceAdd, Nat.reduceSub, Nat.reduceMul, Nat.reduceDiv, Nat.reduceMod, Nat.reduceLT, Nat.reduceLeDiff, Nat.reduceEqDiff, Nat.reduceBEq, Nat.reduceBNe, Nat.reduceGT, Int.reduceAdd, Int.reduceSub, Int.reduceMul, Int.reduceNeg, Int.reduceLT, Int.reduceLE, Int.reduceEq, Int.reduceNe, Int.reduceBEq, Int.reduceBNe, Int.reduceToNat, Int.reduceGT, Int.reduceGE, ↓reduceIte, decide_true, decide_false, eq_self, Nat.mul_one, Nat.zero_mul, Nat.one_mul, Int.le_refl, Nat.le_refl, Int.cast_ofNat_Int]
    · simp (decide := true) (maxSteps := 4000000) only [go_sem, Nat.reduceAdd, Nat.reduceSub, Nat.reduceMul, Nat.reduceDiv, Nat.reduceMod, Nat.reduceLT, Nat.reduceLeDiff, Nat.reduceEqDiff, Nat.reduceBEq, Nat.reduceBNe, Nat.reduceGT, Int.reduceAdd, Int.reduceSub, Int.reduceMul, Int.reduceNeg, Int.reduceLT, Int.reduceLE, Int.reduceEq, Int.reduceNe, Int.reduceBEq, Int.reduceBNe, Int.reduceToNat, Int.reduceGT, Int.reduceGE, ↓reduceIte, decide_true, decide_false, eq_self, Nat.mul_one, Nat.zero_mul, Nat.one_mul, Int.le_refl, Nat.le_refl, Int.cast_ofNat_Int, hun, o1, o2, o3, o4, o5, o6, ov, can30 o1, tilt30 o1, next30 o1, false30 o1, can30 o2, tilt30 o2, next30 o2, false30 o2, can30 o3, tilt30 o3, next30 o3, false30 o3, can30 o4, tilt30 o4, next30 o4, false30 o4, can30 o5, tilt30 o5, next30 o5, false30 o5, can30 o6, tilt30 o6, next30 o6, false30 o6, TE.t, Span.t, Span.cs, List.length_nil]
      refine hI1 _ ⟨2 + 1, by omega⟩ (by simp) ?_
      simp (decide := true) (maxSteps := 4000000) only [go_sem, Nat.reduceAdd, Nat.reduceSub, Nat.reduceMul, Nat.reduceDiv, Nat.reduceMod, Nat.reduceLT, Nat.reduceLeDiff, Nat.reduceEqDiff, Nat.reduceBEq, Nat.reduceBNe, Nat.reduceGT, Int.reduceAdd, Int.reduceSub, Int.reduceMul, Int.reduceNeg, Int.reduceLT, Int.reduceLE, Int.reduceEq, Int.reduceNe, Int.reduceBEq, Int.reduceBNe, Int.reduceToNat, Int.reduceGT, Int.reduceGE, ↓reduceIte, decide_true, decide_false, eq_self, Nat.mul_one, Nat.zero_mul, Nat.one_mul, Int.le_refl, Nat.le_refl, Int.cast_ofNat_Int]
    · simp (decide := true) (maxSteps := 4000000) only [go_sem, Nat.reduceAdd, Nat.reduceSub, Nat.reduceMul, Nat.reduceDiv, Nat.reduceMod, Nat.reduceLT, Nat.reduceLeDiff, Nat.reduceEqDiff, Nat.reduceBEq, Nat.reduceBNe, Nat.reduceGT, Int.reduceAdd, Int.reduceSub, Int.reduceMul, Int.reduceNeg, Int.reduceLT, Int.reduceLE, Int.reduceEq, Int.reduceNe, Int.reduceBEq, Int.reduceBNe, Int.reduceToNat, Int.reduceGT, Int.reduceGE, ↓reduceIte, decide_true, decide_false, eq_self, Nat.mul_one, Nat.zero_mul, Nat.one_mul, Int.le_refl, Nat.le_refl, Int.cast_ofNat_Int, hun, o1, o2, o3, o4, o5, o6, ov, can30 o1, tilt30 o1, next30 o1, false30 o1, can30 o2, tilt30 o2, next30 o2, false30 o2, can30 o3, tilt30 o3, next30 o3, false30 o3, can30 o4, tilt30 o4, next30 o4, false30 o4, can30 o5, tilt30 o5, next30 o5, false30 o5, can30 o6, tilt30 o6, next30 o6, false30 o6, TE.t, Span.t, Span.cs, List.length_nil]
      refine hI1 _ ⟨3 + 1, by omega⟩ (by simp) ?_
      simp (decide := true) (maxSteps := 4000000) only [go_sem, Nat.reduceAdd, Nat.reduceSub, Nat.reduceMul, Nat.reduceDiv, Nat.reduceMod, Nat.reduceLT, Nat.reduceLeDiff, Nat.reduceEqDiff, Nat.reduceBEq, Nat.reduceBNe, Nat.reduceGT, Int.reduceAdd, Int.reduceSub, Int.reduceMul, Int.reduceNeg, Int.reduceLT, Int.reduceLE, Int.reduceEq, Int.reduceNe, Int.reduceBEq, Int.reduceBNe, Int.reduceToNat, Int.reduceGT, Int.reduceGE, ↓reduceIte, decide_true, decide_false, eq_self, Nat.mul_one, Nat.zero_mul, Nat.one_mul, Int.le_refl, Nat.le_refl, Int.cast_ofNat_Int]
    · simp (decide := true) (maxSteps := 4000000) only [go_sem, Nat.reduceAdd, Nat.reduceSub, Nat.reduceMul, Nat.reduceDiv, Nat.reduceMod, Nat.reduceLT, Nat.reduceLeDiff, Nat.reduceEqDiff, Nat.reduceBEq, Nat.reduceBNe, Nat.reduceGT, Int.reduceAdd, Int.reduceSub, Int.reduceMul, Int.reduceNeg, Int.reduceLT, Int.reduceLE, Int.reduceEq, Int.reduceNe, Int.reduceBEq, Int.reduceBNe, Int.reduceToNat, Int.reduceGT, Int.reduceGE, ↓reduceIte, decide_true, decide_false, eq_self, Nat.mul_one, Nat.zero_mul, Nat.one_mul, Int.le_refl, Nat.le_refl, Int.cast_ofNat_Int, hun, o1, o2, o3, o4, o5, o6, ov, can30 o1, tilt30 o1, next30 o1, false30 o1, can30 o2, tilt30 o2, next30 o2, false30 o2, can30 o3, tilt30 o3, next30 o3, false30 o3, can30 o4, tilt30 o4, next30 o4, false30 o4, can30 o5, tilt30 o5, next30 o5, false30 o5, can30 o6, tilt30 o6, next30 o6, false30 o6, TE.t, Span.t, Span.cs, List.length_nil]
      refine hI1 _ ⟨4 + 1, by omega⟩ (by simp) ?_
      simp (decide := true) (maxSteps := 4000000) only [go_sem, Nat.reduceAdd, Nat.reduceSub, Nat.reduceMul, Nat.reduceDiv, Nat.reduceMod, Nat.reduceLT, Nat.reduceLeDiff, Nat.reduceEqDiff, Nat.reduceBEq, Nat.reduceBNe, Nat.reduceGT, Int.reduceAdd, Int.reduceSub, Int.reduceMul, Int.reduceNeg, Int.reduceLT, Int.reduceLE, Int.reduceEq, Int.reduceNe, Int.reduceBEq, Int.reduceBNe, Int.reduceToNat, Int.reduceGT, Int.reduceGE, ↓reduceIte, decide_true, decide_false, eq_self, Nat.mul_one, Nat.zero_mul, Nat.one_mul, Int.le_refl, Nat.le_refl, Int.cast_ofNat_Int]
    · simp (decide := true) (maxSteps := 4000000) only [go_sem, Nat.reduceAdd, Nat.reduceSub, Nat.reduceMul, Nat.reduceDiv, Nat.reduceMod, Nat.reduceLT, Nat.reduceLeDiff, Nat.reduceEqDiff, Nat.reduceBEq, Nat.reduceBNe, Nat.reduceGT, Int.reduceAdd, Int.reduceSub, Int.reduceMul, Int.reduceNeg, Int.reduceLT, Int.reduceLE, Int.reduceEq, Int.reduceNe, Int.reduceBEq, Int.reduceBNe, Int.reduceToNat, Int.reduceGT, Int.reduceGE, ↓reduceIte, decide_true, decide_false, eq_self, Nat.mul_one, Nat.zero_mul, Nat.one_mul, Int.le_refl, Nat.le_refl, Int.cast_ofNat_Int, hun, o1, o2, o3, o4, o5, o6, ov, can30 o1, tilt30 o1, next30 o1, false30 o1, can30 o2, tilt30 o2, next30 o2, false30 o2, can30 o3, tilt30 o3, next30 o3, false30 o3, can30 o4, tilt30 o4, next30 o4, false30 o4, can30 o5, tilt30 o5, next30 o5, false30 o5, can30 o6, tilt30 o6, next30 o6, false30 o6, TE.t, Span.t, Span.cs, List.length_nil]
      refine hI1 _ ⟨5 + 1, by omega⟩ (by simp) ?_
      simp (decide := true) (maxSteps := 4000000) only [go_sem, Nat.reduceAdd, Nat.reduceSub, Nat.reduceMul, Nat.reduceDiv, Nat.reduceMod, Nat.reduceLT, Nat.reduceLeDiff, Nat.reduceEqDiff, Nat.reduceBEq, Nat.reduceBNe, Nat.reduceGT, Int.reduceAdd, Int.reduceSub, Int.reduceMul, Int.reduceNeg, Int.reduceLT, Int.reduceLE, Int.reduceEq, Int.reduceNe, Int.reduceBEq, Int.reduceBNe, Int.reduceToNat, Int.reduceGT, Int.reduceGE, ↓reduceIte, decide_true, decide_false, eq_self, Nat.mul_one, Nat.zero_mul, Nat.one_mul, Int.le_refl, Nat.le_refl, Int.cast_ofNat_Int]
    · simp (decide := true) (maxSteps := 4000000) only [go_sem, Nat.reduceAdd, Nat.reduceSub, Nat.reduceMul, Nat.reduceDiv, Nat.reduceMod, Nat.reduceLT, Nat.reduceLeDiff, Nat.reduceEqDiff, Nat.reduceBEq, Nat.reduceBNe, Nat.reduceGT, Int.reduceAdd, Int.reduceSub, Int.reduceMul, Int.reduceNeg, Int.reduceLT, Int.reduceLE, Int.reduceEq, Int.reduceNe, Int.reduceBEq, Int.reduceBNe, Int.reduceToNat, Int.reduceGT, Int.reduceGE, ↓reduceIte, decide_true, decide_false, eq_self, Nat.mul_one, Nat.zero_mul, Nat.one_mul, Int.le_refl, Nat.le_refl, Int.cast_ofNat_Int]
      refine hQ1 _ _ ?_
      simp (decide := true) (maxSteps := 4000000) only [go_sem, Nat.reduceAdd, Nat.reduceSub, Nat.reduceMul, Nat.reduceDiv, Nat.reduceMod, Nat.reduceLT, Nat.reduceLeDiff, Nat.reduceEqDiff, Nat.reduceBEq, Nat.reduceBNe, Nat.reduceGT, Int.reduceAdd, Int.reduceSub, Int.reduceMul, Int.reduceNeg, Int.reduceLT, Int.reduceLE, Int.reduceEq, Int.reduceNe, Int.reduceBEq, Int.reduceBNe, Int.reduceToNat, Int.reduceGT, Int.reduceGE, ↓reduceIte, decide_true, decide_false, eq_self, Nat.mul_one, Nat.zero_mul, Nat.one_mul, Int.le_refl, Nat.le_refl, Int.cast_ofNat_Int, List.flatten_cons, List.flatten_nil, freezeW, freezeO, closedG, seenF, wr, upo]
      refine pwpC_loopU (A := { k : Nat // k ≤ 7 }) [13] (fun k => [(14, .t (.int .i64 (k.1 : Nat)))]) (fun _ => []) (fun k => 7 - k.1) ⟨0, by omega⟩ (by decide) (fun _ => by rfl) ?_ fun Q2 hQ2 ⟨k, hk⟩ I2 hI2 => ?_
      · simp (decide := true) (maxSteps := 4000000) only [go_sem, Nat.reduceAdd, Nat.reduceSub, Nat.reduceMul, Nat.reduceDiv, Nat.reduceMod, Nat.reduceLT, Nat.reduceLeDiff, Nat.reduceEqDiff, Nat.reduceBEq, Nat.reduceBNe, Nat.reduceGT, Int.reduceAdd, Int.reduceSub, Int.reduceMul, Int.reduceNeg, Int.reduceLT, Int.reduceLE, Int.reduceEq, Int.reduceNe, Int.reduceBEq, Int.reduceBNe, Int.reduceToNat, Int.reduceGT, Int.reduceGE, ↓reduceIte, decide_true, decide_false, eq_self, Nat.mul_one, Nat.zero_mul, Nat.one_mul, Int.le_refl, Nat.le_refl, Int.cast_ofNat_Int]
      · rcases (show k = 0 ∨ k = 1 ∨ k = 2 ∨ k = 3 ∨ k = 4 ∨ k = 5 ∨ k = 6 ∨ k = 7 by omega) with rfl | rfl | rfl | rfl | rfl | rfl | rfl | rfl
        · simp (decide := true) (maxSteps := 4000000) only [go_sem, Nat.reduceAdd, Nat.reduceSub, Nat.reduceMul, Nat.reduceDiv, Nat.reduceMod, Nat.reduceLT, Nat.reduceLeDiff, Nat.reduceEqDiff, Nat.reduceBEq, Nat.reduceBNe, Nat.reduceGT, Int.reduceAdd, Int.reduceSub, Int.reduceMul, Int.reduceNeg, Int.reduceLT, Int.reduceLE, Int.reduceEq, Int.reduceNe, Int.reduceBEq, Int.reduceBNe, Int.reduceToNat, Int.reduceGT, Int.reduceGE, ↓reduceIte, decide_true, decide_false, eq_self, Nat.mul_one, Nat.zero_mul, Nat.one_mul, Int.le_refl, Nat.le_refl, Int.cast_ofNat_Int, exV, exR, Vial.t, Vial.cs, Rd.cs, hun, unRds, can31 ov q0, tilt31 ov q0, next31 ov q0, false31 ov q0, can31 ov q1, tilt31 ov q1, next31 ov q1, false31 ov q1, can31 ov q2, tilt31 ov q2, next31 ov q2, false31 ov q2, can31 ov q3, tilt31 ov q3, next31 ov q3, false31 ov q3, can31 ov q4, tilt31 ov q4, next31 ov q4, false31 ov q4, can31 ov q5, tilt31 ov q5, next31 ov q5, false31 ov q5, can31 ov q6, tilt31 ov q6, next31 ov q6, false31 ov q6, TE.t, Span.t, Span.cs, List.length_nil]
          refine hI2 _ ⟨0 + 1, by omega⟩ (by simp) ?_
          simp (decide := true) (maxSteps := 4000000) only [go_sem, Nat.reduceAdd, Nat.reduceSub, Nat.reduceMul, Nat.reduceDiv, Nat.reduceMod, Nat.reduceLT, Nat.reduceLeDiff, Nat.reduceEqDiff, Nat.reduceBEq, Nat.reduceBNe, Nat.reduceGT, Int.reduceAdd, Int.reduceSub, Int.reduceMul, Int.reduceNeg, Int.reduceLT, Int.reduceLE, Int.reduceEq, Int.reduceNe, Int.reduceBEq, Int.reduceBNe, Int.reduceToNat, Int.reduceGT, Int.reduceGE, ↓reduceIte, decide_true, decide_false, eq_self, Nat.mul_one, Nat.zero_mul, Nat.one_mul, Int.le_refl, Nat.le_refl, Int.cast_ofNat_Int]
        · simp (decide := true) (maxSteps := 4000000) only [go_sem, Nat.reduceAdd, Nat.reduceSub, Nat.reduceMul, Nat.reduceDiv, Nat.reduceMod, Nat.reduceLT, Nat.reduceLeDiff, Nat.reduceEqDiff, Nat.reduceBEq, Nat.reduceBNe, Nat.reduceGT, Int.reduceAdd, Int.reduceSub, Int.reduceMul, Int.reduceNeg, Int.reduceLT, Int.reduceLE, Int.reduceEq, Int.reduceNe, Int.reduceBEq, Int.reduceBNe, Int.reduceToNat, Int.reduceGT, Int.reduceGE, ↓reduceIte, decide_true, decide_false, eq_self, Nat.mul_one, Nat.zero_mul, Nat.one_mul, Int.le_refl, Nat.le_refl, Int.cast_ofNat_Int, exV, exR, Vial.t, Vial.cs, Rd.cs, hun, unRds, can31 ov q0, tilt31 ov q0, next31 ov q0, false31 ov q0, can31 ov q1, tilt31 ov q1, next31 ov q1, false31 ov q1, can31 ov q2, tilt31 ov q2, next31 ov q2, false31 ov q2, can31 ov q3, tilt31 ov q3, next31 ov q3, false31 ov q3, can31 ov q4, tilt31 ov q4, next31 ov q4, false31 ov q4, can31 ov q5, tilt31 ov q5, next31 ov q5, false31 ov q5, can31 ov q6, tilt31 ov q6, next31 ov q6, false31 ov q6, TE.t, Span.t, Span.cs, List.length_nil]
          refine hI2 _ ⟨1 + 1, by omega⟩ (by simp) ?_
          simp (decide := true) (maxSteps := 4000000) only [go_sem, Nat.reduceAdd, Nat.reduceSub, Nat.reduceMul, Nat.reduceDiv, Nat.reduceMod, Nat.reduceLT, Nat.reduceLeDiff, Nat.reduceEqDiff, Nat.reduceBEq, Nat.reduceBNe, Nat.reduceGT, Int.reduceAdd, Int.reduceSub, Int.reduceMul, Int.reduceNeg, Int.reduceLT, Int.reduceLE, Int.reduceEq, Int.reduceNe, Int.reduceBEq, Int.reduceBNe, Int.reduceToNat, Int.reduceGT, Int.reduceGE, ↓reduceIte, decide_true, decide_false, eq_self, Nat.mul_one, Nat.zero_mul, Nat.one_mul, Int.le_refl, Nat.le_refl, Int.cast_ofNat_Int]
        · simp (decide := true) (maxSteps := 4000000) only [go_sem, Nat.reduceAdd, Nat.reduceSub, Nat.reduceMul, Nat.reduceDiv, Nat.reduceMod, Nat.reduceLT, Nat.reduceLeDiff, Nat.reduceEqDiff, Nat.reduceBEq, Nat.reduceBNe, Nat.reduceGT, Int.reduceAdd, Int.reduceSub, Int.reduceMul, Int.reduceNeg, Int.reduceLT, Int.reduceLE, Int.reduceEq, Int.reduceNe, Int.reduceBEq, Int.reduceBNe, Int.reduceToNat, Int.reduceGT, Int.reduceGE, ↓reduceIte, decide_true, decide_false, eq_self, Nat.mul_one, Nat.zero_mul, Nat.one_mul, Int.le_refl, Nat.le_refl, Int.cast_ofNat_Int, exV, exR, Vial.t, Vial.cs, Rd.cs, hun, unRds, can31 ov q0, tilt31 ov q0, next31 ov q0, false31 ov q0, can31 ov q1, tilt31 ov q1, next31 ov q1, false31 ov q1, can31 ov q2, tilt31 ov q2, next31 ov q2, false31 ov q2, can31 ov q3, tilt31 ov q3, next31 ov q3, false31 ov q3, can31 ov q4, tilt31 ov q4, next31 ov q4, false31 ov q4, can31 ov q5, tilt31 ov q5, next31 ov q5, false31 ov q5, can31 ov q6, tilt31 ov q6, next31 ov q6, false31 ov q6, TE.t, Span.t, Span.cs, List.length_nil]
          refine hI2 _ ⟨2 + 1, by omega⟩ (by simp) ?_
          simp (decide := true) (maxSteps := 4000000) only [go_sem, Nat.reduceAdd, Nat.reduceSub, Nat.reduceMul, Nat.reduceDiv, Nat.reduceMod, Nat.reduceLT, Nat.reduceLeDiff, Nat.reduceEqDiff, Nat.reduceBEq, Nat.reduceBNe, Nat.reduceGT, Int.reduceAdd, Int.reduceSub, Int.reduceMul, Int.reduceNeg, Int.reduceLT, Int.reduceLE, Int.reduceEq, Int.reduceNe, Int.reduceBEq, Int.reduceBNe, Int.reduceToNat, Int.reduceGT, Int.reduceGE, ↓reduceIte, decide_true, decide_false, eq_self, Nat.mul_one, Nat.zero_mul, Nat.one_mul, Int.le_refl, Nat.le_refl, Int.cast_ofNat_Int]
        · simp (decide := true) (maxSteps := 4000000) only [go_sem, Nat.reduceAdd, Nat.reduceSub, Nat.reduceMul, Nat.reduceDiv, Nat.reduceMod, Nat.reduceLT, Nat.reduceLeDiff, Nat.reduceEqDiff, Nat.reduceBEq, Nat.reduceBNe, Nat.reduceGT, Int.reduceAdd, Int.reduceSub, Int.reduceMul, Int.reduceNeg, Int.reduceLT, Int.reduceLE, Int.reduceEq, Int.reduceNe, Int.reduceBEq, Int.reduceBNe, Int.reduceToNat, Int.reduceGT, Int.reduceGE, ↓reduceIte, decide_true, decide_false, eq_self, Nat.mul_one, Nat.zero_mul, Nat.one_mul, Int.le_refl, Nat.le_refl, Int.cast_ofNat_Int, exV, exR, Vial.t, Vial.cs, Rd.cs, hun, unRds, can31 ov q0, tilt31 ov q0, next31 ov q0, false31 ov q0, can31 ov q1, tilt31 ov q1, next31 ov q1, false31 ov q1, can31 ov q2, tilt31 ov q2, next31 ov q2, false31 ov q2, can31 ov q3, tilt31 ov q3, next31 ov q3, false31 ov q3, can31 ov q4, tilt31 ov q4, next31 ov q4, false31 ov q4, can31 ov q5, tilt31 ov q5, next31 ov q5, false31 ov q5, can31 ov q6, tilt31 ov q6, next31 ov q6, false31 ov q6, TE.t, Span.t, Span.cs, List.length_nil]
          refine hI2 _ ⟨3 + 1, by omega⟩ (by simp) ?_
          simp (decide := true) (maxSteps := 4000000) only [go_sem, Nat.reduceAdd, Nat.reduceSub, Nat.reduceMul, Nat.reduceDiv, Nat.reduceMod, Nat.reduceLT, Nat.reduceLeDiff, Nat.reduceEqDiff, Nat.reduceBEq, Nat.reduceBNe, Nat.reduceGT, Int.reduceAdd, Int.reduceSub, Int.reduceMul, Int.reduceNeg, Int.reduceLT, Int.reduceLE, Int.reduceEq, Int.reduceNe, Int.reduceBEq, Int.reduceBNe, Int.reduceToNat, Int.reduceGT, Int.reduceGE, ↓reduceIte, decide_true, decide_false, eq_self, Nat.mul_one, Nat.zero_mul, Nat.one_mul, Int.le_refl, Nat.le_refl, Int.cast_ofNat_Int]
        · simp (decide := true) (maxSteps := 4000000) only [go_sem, Nat.reduceAdd, Nat.reduceSub, Nat.reduceMul, Nat.reduceDiv, Nat.reduceMod, Nat.reduceLT, Nat.reduceLeDiff, Nat.reduceEqDiff, Nat.reduceBEq, Nat.reduceBNe, Nat.reduceGT, Int.reduceAdd, Int.reduceSub, Int.reduceMul, Int.reduceNeg, Int.reduceLT, Int.reduceLE, Int.reduceEq, Int.reduceNe, Int.reduceBEq, Int.reduceBNe, Int.reduceToNat, Int.reduceGT, Int.reduceGE, ↓reduceIte, decide_true, decide_false, eq_self, Nat.mul_one, Nat.zero_mul, Nat.one_mul, Int.le_refl, Nat.le_refl, Int.cast_ofNat_Int, exV, exR, Vial.t, Vial.cs, Rd.cs, hun, unRds, can31 ov q0, tilt31 ov q0, next31 ov q0, false31 ov q0, can31 ov q1, tilt31 ov q1, next31 ov q1, false31 ov q1, can31 ov q2, tilt31 ov q2, next31 ov q2, false31 ov q2, can31 ov q3, tilt31 ov q3, next31 ov q3, false31 ov q3, can31 ov q4, tilt31 ov q4, next31 ov q4, false31 ov q4, can31 ov q5, tilt31 ov q5, next31 ov q5, false31 ov q5, can31 ov q6, tilt31 ov q6, next31 ov q6, false31 ov q6, TE.t, Span.t, Span.cs, List.length_nil]
          refine hI2 _ ⟨4 + 1, by omega⟩ (by simp) ?_
          simp (decide := true) (maxSteps := 4000000) only [go_sem, Nat.reduceAdd, Nat.reduceSub, Nat.reduceMul, Nat.reduceDiv, Nat.reduceMod, Nat.reduceLT, Nat.reduceLeDiff, Nat.reduceEqDiff, Nat.reduceBEq, Nat.reduceBNe, Nat.reduceGT, Int.reduceAdd, Int.reduceSub, Int.reduceMul, Int.reduceNeg, Int.reduceLT, Int.reduceLE, Int.reduceEq, Int.reduceNe, Int.reduceBEq, Int.reduceBNe, Int.reduceToNat, Int.reduceGT, Int.reduceGE, ↓reduceIte, decide_true, decide_false, eq_self, Nat.mul_one, Nat.zero_mul, Nat.one_mul, Int.le_refl, Nat.le_refl, Int.cast_ofNat_Int]
        · simp (decide := true) (maxSteps := 4000000) only [go_sem, Nat.reduceAdd, Nat.reduceSub, Nat.reduceMul, Nat.reduceDiv, Nat.reduceMod, Nat.reduceLT, Nat.reduceLeDiff, Nat.reduceEqDiff, Nat.reduceBEq, Nat.reduceBNe, Nat.reduceGT, Int.reduceAdd, Int.reduceSub, Int.reduceMul, Int.reduceNeg, Int.reduceLT, Int.reduceLE, Int.reduceEq, Int.reduceNe, Int.reduceBEq, Int.reduceBNe, Int.reduceToNat, Int.reduceGT, Int.reduceGE, ↓reduceIte, decide_true, decide_false, eq_self, Nat.mul_one, Nat.zero_mul, Nat.one_mul, Int.le_refl, Nat.le_refl, Int.cast_ofNat_Int, exV, exR, Vial.t, Vial.cs, Rd.cs, hun, unRds, can31 ov q0, tilt31 ov q0, next31 ov q0, false31 ov q0, can31 ov q1, tilt31 ov q1, next31 ov q1, false31 ov q1, can31 ov q2, tilt31 ov q2, next31 ov q2, false31 ov q2, can31 ov q3, tilt31 ov q3, next31 ov q3, false31 ov q3, can31 ov q4, tilt31 ov q4, next31 ov q4, false31 ov q4, can31 ov q5, tilt31 ov q5, next31 ov q5, false31 ov q5, can31 ov q6, tilt31 ov q6, next31 ov q6, false31 ov q6, TE.t, Span.t, Span.cs, List.length_nil]
          refine hI2 _ ⟨5 + 1, by omega⟩ (by simp) ?_
          simp (decide := true) (maxSteps := 4000000) only [go_sem, Nat.reduceAdd, Nat.reduceSub, Nat.reduceMul, Nat.reduceDiv, Nat.reduceMod, Nat.reduceLT, Nat.reduceLeDiff, Nat.reduceEqDiff, Nat.reduceBEq, Nat.reduceBNe, Nat.reduceGT, Int.reduceAdd, Int.reduceSub, Int.reduceMul, Int.reduceNeg, Int.reduceLT, Int.reduceLE, Int.reduceEq, Int.reduceNe, Int.reduceBEq, Int.reduceBNe, Int.reduceToNat, Int.reduceGT, Int.reduceGE, ↓reduceIte, decide_true, decide_false, eq_self, Nat.mul_one, Nat.zero_mul, Nat.one_mul, Int.le_refl, Nat.le_refl, Int.cast_ofNat_Int]
        · simp (decide := true) (maxSteps := 4000000) only [go_sem, Nat.reduceAdd, Nat.reduceSub, Nat.reduceMul, Nat.reduceDiv, Nat.reduceMod, Nat.reduceLT, Nat.reduceLeDiff, Nat.reduceEqDiff, Nat.reduceBEq, Nat.reduceBNe, Nat.reduceGT, Int.reduceAdd, Int.reduceSub, Int.reduceMul, Int.reduceNeg, Int.reduceLT, Int.reduceLE, Int.reduceEq, Int.reduceNe, Int.reduceBEq, Int.reduceBNe, Int.reduceToNat, Int.reduceGT, Int.reduceGE, ↓reduceIte, decide_true, decide_false, eq_self, Nat.mul_one, Nat.zero_mul, Nat.one_mul, Int.le_refl, Nat.le_refl, Int.cast_ofNat_Int, exV, exR, Vial.t, Vial.cs, Rd.cs, hun, unRds, can31 ov q0, tilt31 ov q0, next31 ov q0, false31 ov q0, can31 ov q1, tilt31 ov q1, next31 ov q1, false31 ov q1, can31 ov q2, tilt31 ov q2, next31 ov q2, false31 ov q2, can31 ov q3, tilt31 ov q3, next31 ov q3, false31 ov q3, can31 ov q4, tilt31 ov q4, next31 ov q4, false31 ov q4, can31 ov q5, tilt31 ov q5, next31 ov q5, false31 ov q5, can31 ov q6, tilt31 ov q6, next31 ov q6, false31 ov q6, TE.t, Span.t, Span.cs, List.length_nil]
          refine hI2 _ ⟨6 + 1, by omega⟩ (by simp) ?_
          simp (decide := true) (maxSteps := 4000000) only [go_sem, Nat.reduceAdd, Nat.reduceSub, Nat.reduceMul, Nat.reduceDiv, Nat.reduceMod, Nat.reduceLT, Nat.reduceLeDiff, Nat.reduceEqDiff, Nat.reduceBEq, Nat.reduceBNe, Nat.reduceGT, Int.reduceAdd, Int.reduceSub, Int.reduceMul, Int.reduceNeg, Int.reduceLT, Int.reduceLE, Int.reduceEq, Int.reduceNe, Int.reduceBEq, Int.reduceBNe, Int.reduceToNat, Int.reduceGT, Int.reduceGE, ↓reduceIte, decide_true, decide_false, eq_self, Nat.mul_one, Nat.zero_mul, Nat.one_mul, Int.le_refl, Nat.le_refl, Int.cast_ofNat_Int]
        · simp (decide := true) (maxSteps := 4000000) only [go_sem, Nat.reduceAdd, Nat.reduceSub, Nat.reduceMul, Nat.reduceDiv, Nat.reduceMod, Nat.reduceLT, Nat.reduceLeDiff, Nat.reduceEqDiff, Nat.reduceBEq, Nat.reduceBNe, Nat.reduceGT, Int.reduceAdd, Int.reduceSub, Int.reduceMul, Int.reduceNeg, Int.reduceLT, Int.reduceLE, Int.reduceEq, Int.reduceNe, Int.reduceBEq, Int.reduceBNe, Int.reduceToNat, Int.reduceGT, Int.reduceGE, ↓reduceIte, decide_true, decide_false, eq_self, Nat.mul_one, Nat.zero_mul, Nat.one_mul, Int.le_refl, Nat.le_refl, Int.cast_ofNat_Int]
          refine hQ2 _ _ ?_
          simp (decide := true) (maxSteps := 4000000) only [go_sem, Nat.reduceAdd, Nat.reduceSub, Nat.reduceMul, Nat.reduceDiv, Nat.reduceMod, Nat.reduceLT, Nat.reduceLeDiff, Nat.reduceEqDiff, Nat.reduceBEq, Nat.reduceBNe, Nat.reduceGT, Int.reduceAdd, Int.reduceSub, Int.reduceMul, Int.reduceNeg, Int.reduceLT, Int.reduceLE, Int.reduceEq, Int.reduceNe, Int.reduceBEq, Int.reduceBNe, Int.reduceToNat, Int.reduceGT, Int.reduceGE, ↓reduceIte, decide_true, decide_false, eq_self, Nat.mul_one, Nat.zero_mul, Nat.one_mul, Int.le_refl, Nat.le_refl, Int.cast_ofNat_Int, exV, exO, exR, Vial.t, Vial.cs, Rd.cs, hun, unRds, unVials, unI, hunv, huni, s1, s2, s3, s5, s6, s7, s8, s9, s10, s11, s12, s13, s14, s15, s16, s17, s18, s19, s20, s21, s4, TE.t, Span.t, Span.cs, ints, List.map_cons, List.map_nil, List.length_nil, List.append_eq, freezeW, freezeO, closedG, seenF, wr, upo]
end Go.Proofs.Ytgofljmnlfnlnaa
