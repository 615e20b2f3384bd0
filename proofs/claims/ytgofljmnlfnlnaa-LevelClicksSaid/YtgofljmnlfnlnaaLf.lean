/- Level: the walks of the program, 10: False. -/
import Derived.Test.YtgofljmnlfnlnaaLb
import Derived.Test.YtgofljmnlfnlnaaLg
import Derived.Test.YtgofljmnlfnlnaaQmZb
namespace Go.Proofs.Ytgofljmnlfnlnaa
open Go.RowKit Go.Pm Go.Oc
set_option maxRecDepth 100000
set_option linter.unusedVariables false
set_option maxHeartbeats 4000000

def Tk.cs (T : Tk) : List TV := [.bool T.b0, .bool T.b1, .bool T.b2, .bool T.b3, .bool T.b4, .bool T.b5, .bool T.b6, .bool T.b7]
theorem tk_get (T : Tk) {i : Nat} (h : i < 8) : ([.t (.bool T.b0), .t (.bool T.b1), .t (.bool T.b2), .t (.bool T.b3), .t (.bool T.b4), .t (.bool T.b5), .t (.bool T.b6), .t (.bool T.b7)] : List PV)[i]? = some (.t (.bool (T.at i))) := by
  rcases lt8 h with rfl | rfl | rfl | rfl | rfl | rfl | rfl | rfl <;> rfl
theorem tk_set (T : Tk) {i : Nat} (h : i < 8) : List.take i ([.t (.bool T.b0), .t (.bool T.b1), .t (.bool T.b2), .t (.bool T.b3), .t (.bool T.b4), .t (.bool T.b5), .t (.bool T.b6), .t (.bool T.b7)] : List PV) ++ [.t (.bool true)] ++ List.drop i ([.t (.bool T.b1), .t (.bool T.b2), .t (.bool T.b3), .t (.bool T.b4), .t (.bool T.b5), .t (.bool T.b6), .t (.bool T.b7)] : List PV) = [.t (.bool (T.set i).b0), .t (.bool (T.set i).b1), .t (.bool (T.set i).b2), .t (.bool (T.set i).b3), .t (.bool (T.set i).b4), .t (.bool (T.set i).b5), .t (.bool (T.set i).b6), .t (.bool (T.set i).b7)] := by
  rcases lt8 h with rfl | rfl | rfl | rfl | rfl | rfl | rfl | rfl <;> simp [Tk.set]
theorem tk_ne {T : Tk} {i : Nat} (h : T.at i = true) : (!T.b0 && (!T.b1 && (!T.b2 && (!T.b3 && (!T.b4 && (!T.b5 && (!T.b6 && !T.b7))))))) = false := by
  have : i < 8 := by
    rcases Nat.lt_or_ge i 8 with h8 | h8
    · exact h8
    · unfold Tk.at at h; split at h <;> first | omega | cases h
  rcases lt8 this with rfl | rfl | rfl | rfl | rfl | rfl | rfl | rfl <;> simp only [Tk.at] at h <;> simp [h]
open Classical in
noncomputable def gC (v : Vial) (l : List Mk) (m : Nat) : List PV → List PO → Option (PV × List PO)
  | [.t (.agg [.bool b0, .bool b1, .bool b2, .bool b3, .bool b4, .bool b5, .bool b6, .bool b7]), .t (.int .i64 fr), .t (.int .i64 mm), .ptr 0 0, .ptr 1 0, .ptr 2 0, .ptr 3 0], [.box [.t o], .box a, .box vc, .box [.fnc 56 [0, 1, 2, 3]]] =>
    if mm = m ∧ (0 ≤ fr ∧ fr ≤ 8) ∧ a = [.t (.sl (l.flatMap Mk.als) l.length false)] ∧ vc = v.cs.map .t ∧ (0 < m ∨ ∃ i, i < l.length ∧ (Tk.mk b0 b1 b2 b3 b4 b5 b6 b7).at i = true) then
      some (.t (.bool (chooseS v l m ⟨b0, b1, b2, b3, b4, b5, b6, b7⟩ fr.toNat o).1), [.box [.t (chooseS v l m ⟨b0, b1, b2, b3, b4, b5, b6, b7⟩ fr.toNat o).2], .box a, .box vc, .box [.fnc 56 [0, 1, 2, 3]]])
    else none
  | _, _ => none
/-- The contract, as far as so many. -/
def ChooseC (v : Vial) (l : List Mk) (m : Nat) : Prop := ∀ (T : Tk) (fr : Nat) (o : TV), fr ≤ 8 → (0 < m ∨ ∃ i, i < l.length ∧ T.at i = true) →
  HCalls Try.prog 56 [.t (.agg (Tk.cs T)), .t (.int .i64 fr), .t (.int .i64 m), .ptr 0 0, .ptr 1 0, .ptr 2 0, .ptr 3 0] (getL [.box [.t o], .box [.t (.sl (l.flatMap Mk.als) l.length false)], .box (v.cs.map .t), .box [.fnc 56 [0, 1, 2, 3]]])
    (.t (.bool (chooseS v l m T fr o).1)) (getL [.box [.t (chooseS v l m T fr o).2], .box [.t (.sl (l.flatMap Mk.als) l.length false)], .box (v.cs.map .t), .box [.fnc 56 [0, 1, 2, 3]]])
theorem gC_ok {v : Vial} {l : List Mk} {m : Nat} (h : ChooseC v l m) : ∀ xs hl r hl', gC v l m xs hl = some (r, hl') → HCalls Try.prog 56 xs (getL hl) r (getL hl') := by
  intro xs hl r hl' hg
  unfold gC at hg
  split at hg
  · split at hg
    · rename_i b0 b1 b2 b3 b4 b5 b6 b7 fr mm o a vc hc
      obtain ⟨rfl, hf, rfl, rfl, ht⟩ := hc
      simp only [Option.some.injEq, Prod.mk.injEq] at hg
      obtain ⟨rfl, rfl⟩ := hg
      have := h ⟨b0, b1, b2, b3, b4, b5, b6, b7⟩ fr.toNat o (by omega) ht
      rw [Int.toNat_of_nonneg hf.1] at this
      exact this
    · cases hg
  · cases hg
theorem choose_zero (v : Vial) (l : List Mk) (hv : v.ok = true) (hm : mksOk l = true) (hl : l.length ≤ 8) : ChooseC v l 0 := by
  intro T fr o hf ht
  obtain ⟨i, hi, hti⟩ := ht.resolve_left (by omega)
  have hne := tk_ne hti
  have h00 : (((0 : Nat) : Int) == 0) = true := rfl
  refine hcalls_by Try.mixes spL5_ok (fn := Try.f56) Try.func56 rfl (by kernel_rfl) (by show 7 ≤ _; decide) ?_
  simp (decide := true) (maxSteps := 4000000) only [go_sem, Nat.reduceAdd, Nat.reduceSub, Nat.reduceMul, Nat.reduceDiv, Nat.reduceMod, Nat.reduceLT, Nat.reduceLeDiff, Nat.reduceEqDiff, Nat.reduceBEq, Nat.reduceBNe, Nat.reduceGT, Int.reduceAdd, Int.reduceSub, Int.reduceMul, Int.reduceNeg, Int.reduceLT, Int.reduceLE, Int.reduceEq, Int.reduceNe, Int.reduceBEq, Int.reduceBNe, Int.reduceToNat, Int.reduceGT, Int.reduceGE, ↓reduceIte, decide_true, decide_false, Try.f56, Tk.cs, Vial.cs, hne, h00]
  refine pwpC_loopQ (A := { k : Nat // k ≤ l.length }) (fun k => { env := [(28, .t (.int .i64 k.1)), (27, .t (.int .i64 l.length)), (26, .t (.sl (l.flatMap Mk.als) l.length false)), (11, .own ((sel l T k.1).flatMap Mk.als) (cntT T k.1) 5), (7, .ptr 4 0), (3, .ptr 0 0), (4, .ptr 1 0), (5, .ptr 2 0), (6, .ptr 3 0)], heap := [.box [.own (ints (idx T k.1)) (cntT T k.1) 6], .box [.t (.sl (l.flatMap Mk.als) l.length false)], .box (v.cs.map .t), .box [.fnc 56 [0, 1, 2, 3]], .box ((Tk.cs T).map .t), .tok (cntT T k.1) 82, .tok (cntT T k.1) 3] }) (fun k => l.length - k.1) ⟨0, by omega⟩ ?_ (fun k => by rfl) fun Q1 hQ1 ⟨k, hk⟩ I1 hI1 => ?_
  · simp (decide := true) (maxSteps := 4000000) only [go_sem, Nat.reduceAdd, Nat.reduceSub, Nat.reduceMul, Nat.reduceDiv, Nat.reduceMod, Nat.reduceLT, Nat.reduceLeDiff, Nat.reduceEqDiff, Nat.reduceBEq, Nat.reduceBNe, Nat.reduceGT, Int.reduceAdd, Int.reduceSub, Int.reduceMul, Int.reduceNeg, Int.reduceLT, Int.reduceLE, Int.reduceEq, Int.reduceNe, Int.reduceBEq, Int.reduceBNe, Int.reduceToNat, Int.reduceGT, Int.reduceGE, ↓reduceIte, decide_true, decide_false, Vial.cs, Tk.cs]
    simp [sel, idx, ints, cntT]
  · by_cases hlt : (k : Int) < l.length
    · obtain ⟨x, hx⟩ := get_lt hlt
      have hd := flat_at Mk.als (n := 1) (fun _ => rfl) hx
      have hc1 : IntKind.i64.wrap (k + 1) = ((k + 1 : Nat) : Int) := by rw [wrap_in (by omega) (by omega)]; omega
      have hd1 : l.length - (k + 1) < l.length - k := by omega
      have hk8 : (k : Int) < ((8 : Nat) : Int) := by omega
      have hk8' : (k : Int) < 8 := by omega
      rw [Nat.mul_one] at hd
      have hg := tk_get T (i := k) (by omega)
      cases ht : T.at k with
      | false =>
        rw [ht] at hg
        simp (decide := true) (maxSteps := 4000000) only [go_sem, Nat.reduceAdd, Nat.reduceSub, Nat.reduceMul, Nat.reduceDiv, Nat.reduceMod, Nat.reduceLT, Nat.reduceLeDiff, Nat.reduceEqDiff, Nat.reduceBEq, Nat.reduceBNe, Nat.reduceGT, Int.reduceAdd, Int.reduceSub, Int.reduceMul, Int.reduceNeg, Int.reduceLT, Int.reduceLE, Int.reduceEq, Int.reduceNe, Int.reduceBEq, Int.reduceBNe, Int.reduceToNat, Int.reduceGT, Int.reduceGE, ↓reduceIte, decide_true, decide_false, eq_self, Nat.mul_one, Nat.zero_mul, Nat.one_mul, Int.le_refl, Nat.le_refl, Int.cast_ofNat_Int, hlt, hd, Mk.als, Mk.al, Vial.cs, Tk.cs, hk8, hk8', hg]
        refine hI1 _ ⟨k + 1, by omega⟩ (by simp only; omega) ?_
        simp (decide := true) (maxSteps := 4000000) only [go_sem, Nat.reduceAdd, Nat.reduceSub, Nat.reduceMul, Nat.reduceDiv, Nat.reduceMod, Nat.reduceLT, Nat.reduceLeDiff, Nat.reduceEqDiff, Nat.reduceBEq, Nat.reduceBNe, Nat.reduceGT, Int.reduceAdd, Int.reduceSub, Int.reduceMul, Int.reduceNeg, Int.reduceLT, Int.reduceLE, Int.reduceEq, Int.reduceNe, Int.reduceBEq, Int.reduceBNe, Int.reduceToNat, Int.reduceGT, Int.reduceGE, ↓reduceIte, decide_true, decide_false, hc1, hd1, Vial.cs, Tk.cs, sel_f ht, idx_f ht, cnt_f ht]
      | true =>
        rw [ht] at hg
        have hcl := cnt_le T k
        have hr1 : (cntT T k + 1) * 16 ≤ 140737488355328 := by omega
        have hr2 : (cntT T k + 1) * 8 ≤ 140737488355328 := by omega
        have e1 : (List.flatMap Mk.als (sel l T k)).length = cntT T k * 1 := by rw [flat_len Mk.als (n := 1) (fun _ => rfl), sel_len (by omega)]
        have e2 : (ints (idx T k)).length = cntT T k * 1 := by rw [ints_len, idx_len, Nat.mul_one]
        rw [Nat.mul_one] at e1 e2
        simp (decide := true) (maxSteps := 4000000) only [go_sem, Nat.reduceAdd, Nat.reduceSub, Nat.reduceMul, Nat.reduceDiv, Nat.reduceMod, Nat.reduceLT, Nat.reduceLeDiff, Nat.reduceEqDiff, Nat.reduceBEq, Nat.reduceBNe, Nat.reduceGT, Int.reduceAdd, Int.reduceSub, Int.reduceMul, Int.reduceNeg, Int.reduceLT, Int.reduceLE, Int.reduceEq, Int.reduceNe, Int.reduceBEq, Int.reduceBNe, Int.reduceToNat, Int.reduceGT, Int.reduceGE, ↓reduceIte, decide_true, decide_false, eq_self, Nat.mul_one, Nat.zero_mul, Nat.one_mul, Int.le_refl, Nat.le_refl, Int.cast_ofNat_Int, hlt, hd, Mk.als, Mk.al, Vial.cs, Tk.cs, hk8, hk8', hg, hr1, hr2, e1, e2]
        refine hI1 _ ⟨k + 1, by omega⟩ (by simp only; omega) ?_
        simp (decide := true) (maxSteps := 4000000) only [go_sem, Nat.reduceAdd, Nat.reduceSub, Nat.reduceMul, Nat.reduceDiv, Nat.reduceMod, Nat.reduceLT, Nat.reduceLeDiff, Nat.reduceEqDiff, Nat.reduceBEq, Nat.reduceBNe, Nat.reduceGT, Int.reduceAdd, Int.reduceSub, Int.reduceMul, Int.reduceNeg, Int.reduceLT, Int.reduceLE, Int.reduceEq, Int.reduceNe, Int.reduceBEq, Int.reduceBNe, Int.reduceToNat, Int.reduceGT, Int.reduceGE, ↓reduceIte, decide_true, decide_false, eq_self, Nat.mul_one, Nat.zero_mul, Nat.one_mul, Int.le_refl, Nat.le_refl, Int.cast_ofNat_Int, hc1, hd1, Vial.cs, Tk.cs, sel_t ht hx, idx_t ht, cnt_t ht, List.flatMap_append, Mk.als, Mk.al, ints_snoc]
    · have hkl : k = l.length := by omega
      subst hkl
      have hcp := cnt_pos hi hti
      have hcn : ¬ cntT T l.length = 0 := by omega
      have hsl := sel_len (l := l) (T := T) (k := l.length) (Nat.le_refl _)
      have hcl := cnt_le T l.length
      have c1 : 1 ≤ (sel l T l.length).length := by omega
      have c2 : (sel l T l.length).length ≤ 100 := by omega
      have c3 := sel_ok (T := T) (k := l.length) hm
      simp (decide := true) (maxSteps := 4000000) only [go_sem, Nat.reduceAdd, Nat.reduceSub, Nat.reduceMul, Nat.reduceDiv, Nat.reduceMod, Nat.reduceLT, Nat.reduceLeDiff, Nat.reduceEqDiff, Nat.reduceBEq, Nat.reduceBNe, Nat.reduceGT, Int.reduceAdd, Int.reduceSub, Int.reduceMul, Int.reduceNeg, Int.reduceLT, Int.reduceLE, Int.reduceEq, Int.reduceNe, Int.reduceBEq, Int.reduceBNe, Int.reduceToNat, Int.reduceGT, Int.reduceGE, ↓reduceIte, decide_true, decide_false, hlt]
      refine hQ1 _ _ ?_
      rw [hsl] at c1 c2
      simp (decide := true) (maxSteps := 4000000) only [go_sem, Nat.reduceAdd, Nat.reduceSub, Nat.reduceMul, Nat.reduceDiv, Nat.reduceMod, Nat.reduceLT, Nat.reduceLeDiff, Nat.reduceEqDiff, Nat.reduceBEq, Nat.reduceBNe, Nat.reduceGT, Int.reduceAdd, Int.reduceSub, Int.reduceMul, Int.reduceNeg, Int.reduceLT, Int.reduceLE, Int.reduceEq, Int.reduceNe, Int.reduceBEq, Int.reduceBNe, Int.reduceToNat, Int.reduceGT, Int.reduceGE, ↓reduceIte, decide_true, decide_false, eq_self, Nat.mul_one, Nat.zero_mul, Nat.one_mul, Int.le_refl, Nat.le_refl, Int.cast_ofNat_Int, hcn, hv, c1, c2, c3, hsl, Vial.cs, Tk.cs, TZ.t, Span.t, Span.cs, chooseS, leafO, idx_len]
      exact ⟨_, rfl, rfl⟩
theorem choose_succ (v : Vial) (l : List Mk) (hv : v.ok = true) (hm : mksOk l = true) (hl : l.length ≤ 8) {m : Nat} (ih : ChooseC v l m) (hm8 : m ≤ 8) : ChooseC v l (m + 1) := by
  intro T fr o hf _
  have hm1 : (((m + 1 : Nat) : Int) == 0) = false := by simp; omega
  have hm2 : ((m + 1 : Nat) : Int) > 0 := by omega
  have hm3 : IntKind.i64.wrap (((m + 1 : Nat) : Int) - 1) = (m : Int) := by rw [wrap_in (by omega) (by omega)]; omega
  refine hcalls_by Try.mixes (Spec.oneH_ok (gC_ok ih) spL5_ok) (fn := Try.f56) Try.func56 rfl (by kernel_rfl) (by show 7 ≤ _; decide) ?_
  simp (decide := true) (maxSteps := 4000000) only [go_sem, Nat.reduceAdd, Nat.reduceSub, Nat.reduceMul, Nat.reduceDiv, Nat.reduceMod, Nat.reduceLT, Nat.reduceLeDiff, Nat.reduceEqDiff, Nat.reduceBEq, Nat.reduceBNe, Nat.reduceGT, Int.reduceAdd, Int.reduceSub, Int.reduceMul, Int.reduceNeg, Int.reduceLT, Int.reduceLE, Int.reduceEq, Int.reduceNe, Int.reduceBEq, Int.reduceBNe, Int.reduceToNat, Int.reduceGT, Int.reduceGE, ↓reduceIte, decide_true, decide_false, Try.f56, Tk.cs, Vial.cs, hm1]
  refine pwpC_loopQ (A := { j : Nat // fr + j ≤ 8 ∧ (l.length < fr + j → j = 0) ∧ (chooseTo v l m T fr o j).1 = false }) (fun j => { env := [(17, .t (.int .i64 ((fr + j.1 : Nat) : Int))), (2, .t (.int .i64 ((m + 1 : Nat) : Int))), (7, .ptr 4 0), (3, .ptr 0 0), (4, .ptr 1 0), (5, .ptr 2 0), (6, .ptr 3 0)], heap := [.box [.t (chooseTo v l m T fr o j.1).2], .box [.t (.sl (l.flatMap Mk.als) l.length false)], .box (v.cs.map .t), .box [.fnc 56 [0, 1, 2, 3]], .box ((Tk.cs T).map .t)] }) (fun j => l.length - (fr + j.1)) ⟨0, by omega, by omega, rfl⟩ ?_ (fun k => by rfl) fun Q1 hQ1 ⟨j, hj8, hj0, hjf⟩ I1 hI1 => ?_
  · simp (decide := true) (maxSteps := 4000000) only [go_sem, Nat.reduceAdd, Nat.reduceSub, Nat.reduceMul, Nat.reduceDiv, Nat.reduceMod, Nat.reduceLT, Nat.reduceLeDiff, Nat.reduceEqDiff, Nat.reduceBEq, Nat.reduceBNe, Nat.reduceGT, Int.reduceAdd, Int.reduceSub, Int.reduceMul, Int.reduceNeg, Int.reduceLT, Int.reduceLE, Int.reduceEq, Int.reduceNe, Int.reduceBEq, Int.reduceBNe, Int.reduceToNat, Int.reduceGT, Int.reduceGE, ↓reduceIte, decide_true, decide_false, Vial.cs, Tk.cs, chooseTo, List.range']
  · by_cases hlt : ((fr + j : Nat) : Int) < l.length
    · have hj7 : fr + j < 8 := by omega
      have hc1 : IntKind.i64.wrap (((fr + j : Nat) : Int) + 1) = ((fr + j + 1 : Nat) : Int) := by rw [wrap_in (by omega) (by omega)]; omega
      have hk8 : ((fr + j : Nat) : Int) < ((8 : Nat) : Int) := by omega
      have hk8' : ((fr + j : Nat) : Int) < 8 := by omega
      have hk9 : ((fr + j + 1 : Nat) : Int) ≤ 8 := by omega
      have hset := tk_set T hj7
      have hj77 : fr + j ≤ 7 := by omega
      have hT : 0 < m ∨ ∃ i, i < l.length ∧ Tk.at ⟨(T.set (fr + j)).b0, (T.set (fr + j)).b1, (T.set (fr + j)).b2, (T.set (fr + j)).b3, (T.set (fr + j)).b4, (T.set (fr + j)).b5, (T.set (fr + j)).b6, (T.set (fr + j)).b7⟩ i = true := by
        refine .inr ⟨fr + j, by omega, ?_⟩
        have := Tk.at_set T hj7 (fr + j)
        simp only [beq_self_eq_true, Bool.or_true] at this
        exact this
      have hnx := chooseTo_succ (v := v) (l := l) (m := m) (T := T) (fr := fr) (o := o) hjf
      have hfold : chooseS v l (m + 1) T fr o = chooseTo v l m T fr o (l.length - fr) := chooseS_succ ..
      cases hb : (chooseS v l m (T.set (fr + j)) (fr + j + 1) (chooseTo v l m T fr o j).2).1 with
      | true =>
        have hb2 : (chooseTo v l m T fr o (j + 1)).1 = true := by rw [hnx]; exact hb
        have hst := chooseTo_stop hb2 (l.length - fr - (j + 1))
        rw [show j + 1 + (l.length - fr - (j + 1)) = l.length - fr by omega] at hst
        rw [hst, hnx] at hfold
        simp (decide := true) (maxSteps := 4000000) only [go_sem, Nat.reduceAdd, Nat.reduceSub, Nat.reduceMul, Nat.reduceDiv, Nat.reduceMod, Nat.reduceLT, Nat.reduceLeDiff, Nat.reduceEqDiff, Nat.reduceBEq, Nat.reduceBNe, Nat.reduceGT, Int.reduceAdd, Int.reduceSub, Int.reduceMul, Int.reduceNeg, Int.reduceLT, Int.reduceLE, Int.reduceEq, Int.reduceNe, Int.reduceBEq, Int.reduceBNe, Int.reduceToNat, Int.reduceGT, Int.reduceGE, ↓reduceIte, decide_true, decide_false, eq_self, Nat.mul_one, Nat.zero_mul, Nat.one_mul, Int.le_refl, Nat.le_refl, Int.cast_ofNat_Int, hlt, hm2, hm3, Vial.cs, Tk.cs, hc1, hk8, hk8', hk9, hset, hj77, hT, gC, hb]
        refine hQ1 _ _ ?_
        simp (decide := true) (maxSteps := 4000000) only [go_sem, Nat.reduceAdd, Nat.reduceSub, Nat.reduceMul, Nat.reduceDiv, Nat.reduceMod, Nat.reduceLT, Nat.reduceLeDiff, Nat.reduceEqDiff, Nat.reduceBEq, Nat.reduceBNe, Nat.reduceGT, Int.reduceAdd, Int.reduceSub, Int.reduceMul, Int.reduceNeg, Int.reduceLT, Int.reduceLE, Int.reduceEq, Int.reduceNe, Int.reduceBEq, Int.reduceBNe, Int.reduceToNat, Int.reduceGT, Int.reduceGE, ↓reduceIte, decide_true, decide_false, eq_self, Nat.mul_one, Nat.zero_mul, Nat.one_mul, Int.le_refl, Nat.le_refl, Int.cast_ofNat_Int, hfold, hb, Vial.cs]
        exact ⟨_, rfl, rfl⟩
      | false =>
        simp (decide := true) (maxSteps := 4000000) only [go_sem, Nat.reduceAdd, Nat.reduceSub, Nat.reduceMul, Nat.reduceDiv, Nat.reduceMod, Nat.reduceLT, Nat.reduceLeDiff, Nat.reduceEqDiff, Nat.reduceBEq, Nat.reduceBNe, Nat.reduceGT, Int.reduceAdd, Int.reduceSub, Int.reduceMul, Int.reduceNeg, Int.reduceLT, Int.reduceLE, Int.reduceEq, Int.reduceNe, Int.reduceBEq, Int.reduceBNe, Int.reduceToNat, Int.reduceGT, Int.reduceGE, ↓reduceIte, decide_true, decide_false, eq_self, Nat.mul_one, Nat.zero_mul, Nat.one_mul, Int.le_refl, Nat.le_refl, Int.cast_ofNat_Int, hlt, hm2, hm3, Vial.cs, Tk.cs, hc1, hk8, hk8', hk9, hset, hj77, hT, gC, hb]
        refine hI1 _ ⟨j + 1, by omega, by omega, by rw [hnx]; exact hb⟩ (by simp only; omega) ?_
        simp (decide := true) (maxSteps := 4000000) only [go_sem, Nat.reduceAdd, Nat.reduceSub, Nat.reduceMul, Nat.reduceDiv, Nat.reduceMod, Nat.reduceLT, Nat.reduceLeDiff, Nat.reduceEqDiff, Nat.reduceBEq, Nat.reduceBNe, Nat.reduceGT, Int.reduceAdd, Int.reduceSub, Int.reduceMul, Int.reduceNeg, Int.reduceLT, Int.reduceLE, Int.reduceEq, Int.reduceNe, Int.reduceBEq, Int.reduceBNe, Int.reduceToNat, Int.reduceGT, Int.reduceGE, ↓reduceIte, decide_true, decide_false, eq_self, Nat.mul_one, Nat.zero_mul, Nat.one_mul, Int.le_refl, Nat.le_refl, Int.cast_ofNat_Int, hc1, Vial.cs, Tk.cs, hnx]
        rw [Nat.add_assoc]
    · simp (decide := true) (maxSteps := 4000000) only [go_sem, Nat.reduceAdd, Nat.reduceSub, Nat.reduceMul, Nat.reduceDiv, Nat.reduceMod, Nat.reduceLT, Nat.reduceLeDiff, Nat.reduceEqDiff, Nat.reduceBEq, Nat.reduceBNe, Nat.reduceGT, Int.reduceAdd, Int.reduceSub, Int.reduceMul, Int.reduceNeg, Int.reduceLT, Int.reduceLE, Int.reduceEq, Int.reduceNe, Int.reduceBEq, Int.reduceBNe, Int.reduceToNat, Int.reduceGT, Int.reduceGE, ↓reduceIte, decide_true, decide_false, eq_self, Nat.mul_one, Nat.zero_mul, Nat.one_mul, Int.le_refl, Nat.le_refl, Int.cast_ofNat_Int, hlt, hm2]
      refine hQ1 _ _ ?_
      have hfold : chooseS v l (m + 1) T fr o = chooseTo v l m T fr o (l.length - fr) := chooseS_succ ..
      have hje : j = l.length - fr := by omega
      rw [← hje] at hfold
      simp (decide := true) (maxSteps := 4000000) only [go_sem, Nat.reduceAdd, Nat.reduceSub, Nat.reduceMul, Nat.reduceDiv, Nat.reduceMod, Nat.reduceLT, Nat.reduceLeDiff, Nat.reduceEqDiff, Nat.reduceBEq, Nat.reduceBNe, Nat.reduceGT, Int.reduceAdd, Int.reduceSub, Int.reduceMul, Int.reduceNeg, Int.reduceLT, Int.reduceLE, Int.reduceEq, Int.reduceNe, Int.reduceBEq, Int.reduceBNe, Int.reduceToNat, Int.reduceGT, Int.reduceGE, ↓reduceIte, decide_true, decide_false, eq_self, Nat.mul_one, Nat.zero_mul, Nat.one_mul, Int.le_refl, Nat.le_refl, Int.cast_ofNat_Int, hfold, hjf, Vial.cs]
      exact ⟨_, rfl, rfl⟩
theorem choose_all (v : Vial) (l : List Mk) (hv : v.ok = true) (hm : mksOk l = true) (hl : l.length ≤ 8) : ∀ m, m ≤ 8 → ChooseC v l m
  | 0, _ => choose_zero v l hv hm hl
  | m + 1, h => choose_succ v l hv hm hl (choose_all v l hv hm hl m (by omega)) (by omega)
noncomputable def gA (v : Vial) (l : List Mk) : List PV → List PO → Option (PV × List PO)
  | [t, fr, .t (.int .i64 mm), a, b, c, d], hl => if mm.toNat ≤ 8 then gC v l mm.toNat [t, fr, .t (.int .i64 mm), a, b, c, d] hl else none
  | _, _ => none
theorem gA_ok {v : Vial} {l : List Mk} (h : ∀ m, m ≤ 8 → ChooseC v l m) : ∀ xs hl r hl', gA v l xs hl = some (r, hl') → HCalls Try.prog 56 xs (getL hl) r (getL hl') := by
  intro xs hl r hl' hg
  unfold gA at hg
  split at hg
  · split at hg
    · rename_i hc; exact gC_ok (h _ hc) _ _ _ _ hg
    · cases hg
  · cases hg
theorem lFalse_c (v : Vial) {l : List Rd} {s : TV} (hs : IsRow Rd.cs s l) (hl : l.length ≤ 5864062014806) : PCalls Try.prog 23 [v.t, s] (.tup [(falseP v l).1, .int .i64 (falseP v l).2]) := by
  unfold falseP
  by_cases hk : asked v l = 0
  · obtain ⟨hv, hr⟩ := asked_zero hk
    have hm := mksOk_mid hv hr
    have h8 := rdsOk_len hr
    have h100 : l.length ≤ 100 := by omega
    have ho := openedT_yes hk
    have hml : (l.map mid).length = l.length := List.length_map _
    have hca := choose_all v (l.map mid) hv hm (by omega)
    refine pcalls_by Try.mixes (Spec.oneH_ok (gA_ok hca) spL5_ok) (fn := Try.f23) Try.func23 rfl (by kernel_rfl) (by show 2 ≤ _; decide) ?_
    obtain ⟨full, rfl⟩ := hs.ne h8.1
    cases hi : (tilts v (l.map mid)).is with
    | true => simp (decide := true) (maxSteps := 4000000) only [go_sem, Nat.reduceAdd, Nat.reduceSub, Nat.reduceMul, Nat.reduceDiv, Nat.reduceMod, Nat.reduceLT, Nat.reduceLeDiff, Nat.reduceEqDiff, Nat.reduceBEq, Nat.reduceBNe, Nat.reduceGT, Int.reduceAdd, Int.reduceSub, Int.reduceMul, Int.reduceNeg, Int.reduceLT, Int.reduceLE, Int.reduceEq, Int.reduceNe, Int.reduceBEq, Int.reduceBNe, Int.reduceToNat, Int.reduceGT, Int.reduceGE, ↓reduceIte, decide_true, decide_false, Try.f23, Vial.t, Vial.cs, hk, hl, ho, hv, h8.1, h8.2, h100, hm, List.length_map, TZ.t, Span.t, Span.cs, hi]
    | false =>
      simp (decide := true) (maxSteps := 4000000) only [go_sem, Nat.reduceAdd, Nat.reduceSub, Nat.reduceMul, Nat.reduceDiv, Nat.reduceMod, Nat.reduceLT, Nat.reduceLeDiff, Nat.reduceEqDiff, Nat.reduceBEq, Nat.reduceBNe, Nat.reduceGT, Int.reduceAdd, Int.reduceSub, Int.reduceMul, Int.reduceNeg, Int.reduceLT, Int.reduceLE, Int.reduceEq, Int.reduceNe, Int.reduceBEq, Int.reduceBNe, Int.reduceToNat, Int.reduceGT, Int.reduceGE, ↓reduceIte, decide_true, decide_false, Try.f23, Vial.t, Vial.cs, hk, hl, ho, hv, h8.1, h8.2, h100, hm, List.length_map, TZ.t, Span.t, Span.cs, hi]
      refine pwpC_loopQ (A := { k : Nat // k ≤ l.length ∧ (falseTo v (l.map mid) k).1 = false }) (fun k => { env := [(36, .t (.int .i64 k.1)), (35, .t (.int .i64 l.length)), (13, .ptr 6 0), (12, .ptr 5 0)], heap := [.box (v.cs.map .t), .box (v.cs.map .t), .box [.t (.sl ((l.map mid).flatMap Mk.als) l.length false)], .box ((tilts v (l.map mid)).tilt.cs.map .t), .box ((tilts v (l.map mid)).zero.cs.map .t), .box [.t (falseTo v (l.map mid) k.1).2], .box [.fnc 56 [5, 2, 1, 6]]] }) (fun k => l.length - k.1) ⟨0, by omega, rfl⟩ ?_ (fun k => by rfl) fun Q1 hQ1 ⟨k, hk1, hkf⟩ I1 hI1 => ?_
      · simp (decide := true) (maxSteps := 4000000) only [go_sem, Nat.reduceAdd, Nat.reduceSub, Nat.reduceMul, Nat.reduceDiv, Nat.reduceMod, Nat.reduceLT, Nat.reduceLeDiff, Nat.reduceEqDiff, Nat.reduceBEq, Nat.reduceBNe, Nat.reduceGT, Int.reduceAdd, Int.reduceSub, Int.reduceMul, Int.reduceNeg, Int.reduceLT, Int.reduceLE, Int.reduceEq, Int.reduceNe, Int.reduceBEq, Int.reduceBNe, Int.reduceToNat, Int.reduceGT, Int.reduceGE, ↓reduceIte, decide_true, decide_false, Vial.cs, Span.cs, falseTo]
      · by_cases hlt : (k : Int) < l.length
        · have hc1 : IntKind.i64.wrap (k + 1) = ((k + 1 : Nat) : Int) := by rw [wrap_in (by omega) (by omega)]; omega
          have hk8 : k + 1 ≤ 8 := by omega
          have hk7 : k ≤ 7 := by omega
          have hT : 0 < k + 1 ∨ ∃ i, i < (l.map mid).length ∧ Tk.at ⟨false, false, false, false, false, false, false, false⟩ i = true := .inl (by omega)
          have hT' : 0 < k + 1 ∨ ∃ i, i < l.length ∧ Tk.at ⟨false, false, false, false, false, false, false, false⟩ i = true := .inl (by omega)
          have hnx := falseTo_next hkf
          unfold Tk.none at hnx
          cases hb : (chooseS v (l.map mid) (k + 1) ⟨false, false, false, false, false, false, false, false⟩ 0 (falseTo v (l.map mid) k).2).1 with
          | true =>
            have hst := falseTo_stop (d := l.length - (k + 1)) (by rw [hnx]; exact hb)
            rw [show k + 1 + (l.length - (k + 1)) = l.length by omega, hnx] at hst
            simp (decide := true) (maxSteps := 4000000) only [go_sem, Nat.reduceAdd, Nat.reduceSub, Nat.reduceMul, Nat.reduceDiv, Nat.reduceMod, Nat.reduceLT, Nat.reduceLeDiff, Nat.reduceEqDiff, Nat.reduceBEq, Nat.reduceBNe, Nat.reduceGT, Int.reduceAdd, Int.reduceSub, Int.reduceMul, Int.reduceNeg, Int.reduceLT, Int.reduceLE, Int.reduceEq, Int.reduceNe, Int.reduceBEq, Int.reduceBNe, Int.reduceToNat, Int.reduceGT, Int.reduceGE, ↓reduceIte, decide_true, decide_false, eq_self, Nat.mul_one, Nat.zero_mul, Nat.one_mul, Int.le_refl, Nat.le_refl, Int.cast_ofNat_Int, hlt, hc1, hk8, hk7, Vial.cs, Span.cs, gA, gC, hT, hT', hb, List.length_map]
            refine hQ1 _ _ ?_
            simp (decide := true) (maxSteps := 4000000) only [go_sem, Nat.reduceAdd, Nat.reduceSub, Nat.reduceMul, Nat.reduceDiv, Nat.reduceMod, Nat.reduceLT, Nat.reduceLeDiff, Nat.reduceEqDiff, Nat.reduceBEq, Nat.reduceBNe, Nat.reduceGT, Int.reduceAdd, Int.reduceSub, Int.reduceMul, Int.reduceNeg, Int.reduceLT, Int.reduceLE, Int.reduceEq, Int.reduceNe, Int.reduceBEq, Int.reduceBNe, Int.reduceToNat, Int.reduceGT, Int.reduceGE, ↓reduceIte, decide_true, decide_false, eq_self, Nat.mul_one, Nat.zero_mul, Nat.one_mul, Int.le_refl, Nat.le_refl, Int.cast_ofNat_Int, hst, Vial.cs]
          | false =>
            simp (decide := true) (maxSteps := 4000000) only [go_sem, Nat.reduceAdd, Nat.reduceSub, Nat.reduceMul, Nat.reduceDiv, Nat.reduceMod, Nat.reduceLT, Nat.reduceLeDiff, Nat.reduceEqDiff, Nat.reduceBEq, Nat.reduceBNe, Nat.reduceGT, Int.reduceAdd, Int.reduceSub, Int.reduceMul, Int.reduceNeg, Int.reduceLT, Int.reduceLE, Int.reduceEq, Int.reduceNe, Int.reduceBEq, Int.reduceBNe, Int.reduceToNat, Int.reduceGT, Int.reduceGE, ↓reduceIte, decide_true, decide_false, eq_self, Nat.mul_one, Nat.zero_mul, Nat.one_mul, Int.le_refl, Nat.le_refl, Int.cast_ofNat_Int, hlt, hc1, hk8, hk7, Vial.cs, Span.cs, gA, gC, hT, hT', hb, List.length_map]
            refine hI1 _ ⟨k + 1, by omega, by rw [hnx]; exact hb⟩ (by simp only; omega) ?_
            simp (decide := true) (maxSteps := 4000000) only [go_sem, Nat.reduceAdd, Nat.reduceSub, Nat.reduceMul, Nat.reduceDiv, Nat.reduceMod, Nat.reduceLT, Nat.reduceLeDiff, Nat.reduceEqDiff, Nat.reduceBEq, Nat.reduceBNe, Nat.reduceGT, Int.reduceAdd, Int.reduceSub, Int.reduceMul, Int.reduceNeg, Int.reduceLT, Int.reduceLE, Int.reduceEq, Int.reduceNe, Int.reduceBEq, Int.reduceBNe, Int.reduceToNat, Int.reduceGT, Int.reduceGE, ↓reduceIte, decide_true, decide_false, eq_self, Nat.mul_one, Nat.zero_mul, Nat.one_mul, Int.le_refl, Nat.le_refl, Int.cast_ofNat_Int, hc1, Vial.cs, Span.cs, hnx, List.length_map]
        · have hkl : k = l.length := by omega
          subst hkl
          simp (decide := true) (maxSteps := 4000000) only [go_sem, Nat.reduceAdd, Nat.reduceSub, Nat.reduceMul, Nat.reduceDiv, Nat.reduceMod, Nat.reduceLT, Nat.reduceLeDiff, Nat.reduceEqDiff, Nat.reduceBEq, Nat.reduceBNe, Nat.reduceGT, Int.reduceAdd, Int.reduceSub, Int.reduceMul, Int.reduceNeg, Int.reduceLT, Int.reduceLE, Int.reduceEq, Int.reduceNe, Int.reduceBEq, Int.reduceBNe, Int.reduceToNat, Int.reduceGT, Int.reduceGE, ↓reduceIte, decide_true, decide_false, eq_self, Nat.mul_one, Nat.zero_mul, Nat.one_mul, Int.le_refl, Nat.le_refl, Int.cast_ofNat_Int, hlt]
          refine hQ1 _ _ ?_
          simp (decide := true) (maxSteps := 4000000) only [go_sem, Nat.reduceAdd, Nat.reduceSub, Nat.reduceMul, Nat.reduceDiv, Nat.reduceMod, Nat.reduceLT, Nat.reduceLeDiff, Nat.reduceEqDiff, Nat.reduceBEq, Nat.reduceBNe, Nat.reduceGT, Int.reduceAdd, Int.reduceSub, Int.reduceMul, Int.reduceNeg, Int.reduceLT, Int.reduceLE, Int.reduceEq, Int.reduceNe, Int.reduceBEq, Int.reduceBNe, Int.reduceToNat, Int.reduceGT, Int.reduceGE, ↓reduceIte, decide_true, decide_false, eq_self, Nat.mul_one, Nat.zero_mul, Nat.one_mul, Int.le_refl, Nat.le_refl, Int.cast_ofNat_Int, Vial.cs]
  · refine pcalls_by Try.mixes spL5_ok (fn := Try.f23) Try.func23 rfl (by kernel_rfl) (by show 2 ≤ _; decide) ?_
    obtain ⟨u, ho⟩ := openedT_no hk
    have hk' : (asked v l != 0) = true := by simpa using hk
    rcases hs with ⟨rfl, rfl⟩ | ⟨full, rfl⟩ <;> simp (decide := true) (maxSteps := 4000000) only [go_sem, Nat.reduceAdd, Nat.reduceSub, Nat.reduceMul, Nat.reduceDiv, Nat.reduceMod, Nat.reduceLT, Nat.reduceLeDiff, Nat.reduceEqDiff, Nat.reduceBEq, Nat.reduceBNe, Nat.reduceGT, Int.reduceAdd, Int.reduceSub, Int.reduceMul, Int.reduceNeg, Int.reduceLT, Int.reduceLE, Int.reduceEq, Int.reduceNe, Int.reduceBEq, Int.reduceBNe, Int.reduceToNat, Int.reduceGT, Int.reduceGE, ↓reduceIte, decide_true, decide_false, Try.f23, Vial.t, Vial.cs, unRds, hl, ho, hk, hk']
end Go.Proofs.Ytgofljmnlfnlnaa
