/- What the claim leans on, text 5. -/
import Derived.Test.YtgofljmnlfnlnaaC4
set_option linter.unusedSimpArgs false
set_option linter.unusedVariables false

/- Part Lg. -/
namespace Go.Oc
open Go Go.Pm

structure Tk where
  b0 : Bool
  b1 : Bool
  b2 : Bool
  b3 : Bool
  b4 : Bool
  b5 : Bool
  b6 : Bool
  b7 : Bool
  deriving DecidableEq
def Tk.none : Tk := ⟨false, false, false, false, false, false, false, false⟩
def Tk.at (T : Tk) : Nat → Bool
  | 0 => T.b0 | 1 => T.b1 | 2 => T.b2 | 3 => T.b3 | 4 => T.b4 | 5 => T.b5 | 6 => T.b6 | 7 => T.b7 | _ => false
def Tk.set (T : Tk) (i : Nat) : Tk := ⟨T.b0 || i == 0, T.b1 || i == 1, T.b2 || i == 2, T.b3 || i == 3, T.b4 || i == 4, T.b5 || i == 5, T.b6 || i == 6, T.b7 || i == 7⟩
theorem lt8 {i : Nat} (h : i < 8) : i = 0 ∨ i = 1 ∨ i = 2 ∨ i = 3 ∨ i = 4 ∨ i = 5 ∨ i = 6 ∨ i = 7 := by omega
theorem Tk.at_set (T : Tk) {i : Nat} (hi : i < 8) (j : Nat) : (T.set i).at j = (T.at j || i == j) := by
  by_cases hj : j < 8
  · rcases lt8 hj with rfl | rfl | rfl | rfl | rfl | rfl | rfl | rfl <;> rfl
  · have : (i == j) = false := by simp; omega
    rw [this]
    unfold Tk.at
    split <;> first | omega | rfl
def sel (l : List Mk) (T : Tk) (k : Nat) : List Mk := ((List.range k).filter T.at).filterMap (l[·]?)
def idx (T : Tk) (k : Nat) : List Int := ((List.range k).filter T.at).map Int.ofNat
theorem sel_t {l : List Mk} {T : Tk} {k : Nat} {x : Mk} (h : T.at k = true) (hx : l[k]? = some x) : sel l T (k + 1) = sel l T k ++ [x] := by
  simp [sel, List.range_succ, List.filter_append, h, hx]
theorem sel_f {l : List Mk} {T : Tk} {k : Nat} (h : T.at k = false) : sel l T (k + 1) = sel l T k := by
  simp [sel, List.range_succ, List.filter_append, h]
theorem idx_t {T : Tk} {k : Nat} (h : T.at k = true) : idx T (k + 1) = idx T k ++ [(k : Int)] := by
  simp [idx, List.range_succ, List.filter_append, h]
theorem idx_f {T : Tk} {k : Nat} (h : T.at k = false) : idx T (k + 1) = idx T k := by
  simp [idx, List.range_succ, List.filter_append, h]
/-- How many are taken. -/
def cntT (T : Tk) (k : Nat) : Nat := ((List.range k).filter T.at).length
theorem cnt_t {T : Tk} {k : Nat} (h : T.at k = true) : cntT T (k + 1) = cntT T k + 1 := by
  simp [cntT, List.range_succ, List.filter_append, h]
theorem cnt_f {T : Tk} {k : Nat} (h : T.at k = false) : cntT T (k + 1) = cntT T k := by
  simp [cntT, List.range_succ, List.filter_append, h]
theorem idx_len (T : Tk) (k : Nat) : (idx T k).length = cntT T k := by simp [idx, cntT]
theorem cnt_le (T : Tk) : ∀ k, cntT T k ≤ k
  | 0 => by simp [cntT]
  | k + 1 => by
    have := cnt_le T k
    cases h : T.at k
    · rw [cnt_f h]; omega
    · rw [cnt_t h]; omega
theorem sel_len {l : List Mk} {T : Tk} : ∀ {k : Nat}, k ≤ l.length → (sel l T k).length = cntT T k
  | 0, _ => by simp [sel, cntT]
  | k + 1, h => by
    have ih := sel_len (l := l) (T := T) (k := k) (by omega)
    cases ht : T.at k
    · rw [sel_f ht, cnt_f ht, ih]
    · rw [sel_t ht (List.getElem?_eq_getElem (by omega)), cnt_t ht]; simp [ih]
theorem cnt_pos {T : Tk} {n i : Nat} (hi : i < n) (h : T.at i = true) : 0 < cntT T n := by
  unfold cntT
  exact List.length_pos_of_mem (List.mem_filter.2 ⟨List.mem_range.2 hi, h⟩)
theorem sel_ok {l : List Mk} {T : Tk} {k : Nat} (h : mksOk l = true) : mksOk (sel l T k) = true := by
  simp only [mksOk, List.all_eq_true] at h ⊢
  intro x hx
  obtain ⟨i, _, hi⟩ := List.mem_filterMap.1 hx
  exact h x (List.mem_of_getElem? hi)
/-- Those that are taken, as a row of numbers. -/
def leafO (T : Tk) (n : Nat) : TV := .sl (ints (idx T n)) (idx T n).length false
/-- The search: found, and what was looked at last. -/
def chooseS (v : Vial) (l : List Mk) : Nat → Tk → Nat → TV → Bool × TV
  | 0, T, _, _ => (!(tilts v (sel l T l.length)).is, leafO T l.length)
  | m + 1, T, fr, o => (List.range' fr (l.length - fr)).foldl (fun acc i => if acc.1 then acc else chooseS v l m (T.set i) (i + 1) acc.2) (false, o)
def chooseTo (v : Vial) (l : List Mk) (m : Nat) (T : Tk) (fr : Nat) (o : TV) (j : Nat) : Bool × TV := (List.range' fr j).foldl (fun acc i => if acc.1 then acc else chooseS v l m (T.set i) (i + 1) acc.2) (false, o)
theorem chooseS_succ (v : Vial) (l : List Mk) (m : Nat) (T : Tk) (fr : Nat) (o : TV) : chooseS v l (m + 1) T fr o = chooseTo v l m T fr o (l.length - fr) := rfl
theorem chooseTo_succ {v : Vial} {l : List Mk} {m : Nat} {T : Tk} {fr : Nat} {o : TV} {j : Nat} (h : (chooseTo v l m T fr o j).1 = false) :
    chooseTo v l m T fr o (j + 1) = chooseS v l m (T.set (fr + j)) (fr + j + 1) (chooseTo v l m T fr o j).2 := by
  unfold chooseTo at h ⊢
  rw [List.range'_1_concat, List.foldl_append]
  simp only [List.foldl_cons, List.foldl_nil]
  rw [if_neg (by rw [h]; simp)]
theorem chooseTo_stop {v : Vial} {l : List Mk} {m : Nat} {T : Tk} {fr : Nat} {o : TV} {j : Nat} (h : (chooseTo v l m T fr o j).1 = true) : ∀ d, chooseTo v l m T fr o (j + d) = chooseTo v l m T fr o j
  | 0 => rfl
  | d + 1 => by
    have ih := chooseTo_stop h d
    rw [← Nat.add_assoc]
    unfold chooseTo at h ih ⊢
    rw [List.range'_1_concat, List.foldl_append, ih]
    simp only [List.foldl_cons, List.foldl_nil]
    rw [if_pos h]
theorem ints_snoc (l : List Int) (x : Int) : ints (l ++ [x]) = ints l ++ [.int .i64 x] := by simp [ints]
/-- What False has come to behind so many sizes. -/
def falseTo (v : Vial) (l : List Mk) : Nat → Bool × TV
  | 0 => (false, .nilSl)
  | k + 1 => if (falseTo v l k).1 then falseTo v l k else chooseS v l (k + 1) Tk.none 0 (falseTo v l k).2
theorem falseTo_stop {v : Vial} {l : List Mk} {k : Nat} (h : (falseTo v l k).1 = true) : ∀ d, falseTo v l (k + d) = falseTo v l k
  | 0 => rfl
  | d + 1 => by
    have ih := falseTo_stop h d
    rw [← Nat.add_assoc, falseTo, ih, if_pos h]
theorem falseTo_next {v : Vial} {l : List Mk} {k : Nat} (h : (falseTo v l k).1 = false) : falseTo v l (k + 1) = chooseS v l (k + 1) Tk.none 0 (falseTo v l k).2 := by
  rw [falseTo, if_neg (by rw [h]; simp)]
/-- What False hands back. -/
def falseP (v : Vial) (l : List Rd) : TV × Int :=
  if asked v l = 0 then (if (tilts v (l.map mid)).is then (.nilSl, 4) else ((falseTo v (l.map mid) l.length).2, 0)) else (.nilSl, asked v l)
end Go.Oc

/- Part Lf. -/
namespace Go.Proofs.Ytgofljmnlfnlnaa
open Go.RowKit Go.Pm Go.Oc
set_option maxRecDepth 100000
set_option linter.unusedVariables false
set_option maxHeartbeats 4000000

def Tk.cs (T : Tk) : List TV := [.bool T.b0, .bool T.b1, .bool T.b2, .bool T.b3, .bool T.b4, .bool T.b5, .bool T.b6, .bool T.b7]
theorem tk_get (T : Tk) {i : Nat} (h : i < 8) : ([.t (.bool T.b0), .t (.bool T.b1), .t (.bool T.b2), .t (.bool T.b3), .t (.bool T.b4), .t (.bool T.b5), .t (.bool T.b6), .t (.bool T.b7)] : List PV)[i]? = some (.t (.bool (T.at i))) := by
  rcases lt8 h with rfl | rfl | rfl | rfl | rfl | rfl | rfl | rfl <;> rfl
theorem tk_set (T : Tk) {i : Nat} (h : i < 8) : List.take i ([.t (.bool T.b0), .t (.bool T.b1), .t (.bool T.b2), .t (.bool T.b3), .t (.bool T.b4), .t (.bool T.b5), .t (.bool T.b6), .t (.bool T.b7)] : List PV) ++ [.t (.bool true)] ++ List.drop i ([.t (.bool T.b1), .t (.bool T.b2), .t (.bool T.b3), .t (.bool T.b4), .t (.bool T.b5), .t (.bool T.b6), .t (.bool T.b7)] : List PV) = [.t (.bool (T.set i).b0), .t (.bool (T.set i).b1), .t (.bool (T.set i).b2), .t (.bool (T.set i).b3), .t (.bool (T.set i).b4), .t (.bool (T.set i).b5), .t (.bool (T.set i).b6), .t (.bool (T.set i).b7)] := by
  rcases lt8 h with rfl | rfl | rfl | rfl | rfl | rfl | rfl | rfl <;> simp [Tk.set]
theorem tk_ne {T : Tk} {i : Nat} (h : T.at i = true) : (!T.b0 && (!T.b1 && (!T.b2 && (!T.b3 && (!T.b4 && (!T.b5 && (!T.b6 && !T.b7))))))) = false := by
  have : i < 8 := by
    rcases Nat.lt_or_ge i 8 with h8 | h8
    · exact h8
    · unfold Tk.at at h; split at h <;> first | omega | cases h
  rcases lt8 this with rfl | rfl | rfl | rfl | rfl | rfl | rfl | rfl <;> simp only [Tk.at] at h <;> simp [h]
open Classical in
noncomputable def gC (v : Vial) (l : List Mk) (m : Nat) : List PV → List PO → Option (PV × List PO)
  | [.t (.agg [.bool b0, .bool b1, .bool b2, .bool b3, .bool b4, .bool b5, .bool b6, .bool b7]), .t (.int .i64 fr), .t (.int .i64 mm), .ptr 0 0, .ptr 1 0, .ptr 2 0, .ptr 3 0], [.box [.t o], .box a, .box vc, .box [.fnc 56 [0, 1, 2, 3]]] =>
    if mm = m ∧ (0 ≤ fr ∧ fr ≤ 8) ∧ a = [.t (.sl (l.flatMap Mk.als) l.length false)] ∧ vc = v.cs.map .t ∧ (0 < m ∨ ∃ i, i < l.length ∧ (Tk.mk b0 b1 b2 b3 b4 b5 b6 b7).at i = true) then
      some (.t (.bool (chooseS v l m ⟨b0, b1, b2, b3, b4, b5, b6, b7⟩ fr.toNat o).1), [.box [.t (chooseS v l m ⟨b0, b1, b2, b3, b4, b5, b6, b7⟩ fr.toNat o).2], .box a, .box vc, .box [.fnc 56 [0, 1, 2, 3]]])
    else none
  | _, _ => none
/-- The contract, as far as so many. -/
def ChooseC (v : Vial) (l : List Mk) (m : Nat) : Prop := ∀ (T : Tk) (fr : Nat) (o : TV), fr ≤ 8 → (0 < m ∨ ∃ i, i < l.length ∧ T.at i = true) →
  HCalls Try.prog 56 [.t (.agg (Tk.cs T)), .t (.int .i64 fr), .t (.int .i64 m), .ptr 0 0, .ptr 1 0, .ptr 2 0, .ptr 3 0] (getL [.box [.t o], .box [.t (.sl (l.flatMap Mk.als) l.length false)], .box (v.cs.map .t), .box [.fnc 56 [0, 1, 2, 3]]])
    (.t (.bool (chooseS v l m T fr o).1)) (getL [.box [.t (chooseS v l m T fr o).2], .box [.t (.sl (l.flatMap Mk.als) l.length false)], .box (v.cs.map .t), .box [.fnc 56 [0, 1, 2, 3]]])
theorem gC_ok {v : Vial} {l : List Mk} {m : Nat} (h : ChooseC v l m) : ∀ xs hl r hl', gC v l m xs hl = some (r, hl') → HCalls Try.prog 56 xs (getL hl) r (getL hl') := by
  intro xs hl r hl' hg
  unfold gC at hg
  split at hg
  · split at hg
    · rename_i b0 b1 b2 b3 b4 b5 b6 b7 fr mm o a vc hc
      obtain ⟨rfl, hf, rfl, rfl, ht⟩ := hc
      simp only [Option.some.injEq, Prod.mk.injEq] at hg
      obtain ⟨rfl, rfl⟩ := hg
      have := h ⟨b0, b1, b2, b3, b4, b5, b6, b7⟩ fr.toNat o (by omega) ht
      rw [Int.toNat_of_nonneg hf.1] at this
      exact this
    · cases hg
  · cases hg
theorem choose_zero (v : Vial) (l : List Mk) (hv : v.ok = true) (hm : mksOk l = true) (hl : l.length ≤ 8) : ChooseC v l 0 := by
  intro T fr o hf ht
  obtain ⟨i, hi, hti⟩ := ht.resolve_left (by omega)
  have hne := tk_ne hti
  have h00 : (((0 : Nat) : Int) == 0) = true := rfl
  refine hcalls_by Try.mixes spL5_ok (fn := Try.f56) Try.func56 rfl (by kernel_rfl) (by show 7 ≤ _; decide) ?_
  simp (decide := true) (maxSteps := 4000000) only [go_sem, Nat.reduceAdd, Nat.reduceSub, Nat.reduceMul, Nat.reduceDiv, Nat.reduceMod, Nat.reduceLT, Nat.reduceLeDiff, Nat.reduceEqDiff, Nat.reduceBEq, Nat.reduceBNe, Nat.reduceGT, Int.reduceAdd, Int.reduceSub, Int.reduceMul, Int.reduceNeg, Int.reduceLT, Int.reduceLE, Int.reduceEq, Int.reduceNe, Int.reduceBEq, Int.reduceBNe, Int.reduceToNat, Int.reduceGT, Int.reduceGE, ↓reduceIte, decide_true, decide_false, Try.f56, Tk.cs, Vial.cs, hne, h00]
  refine pwpC_loopQ (A := { k : Nat // k ≤ l.length }) (fun k => { env := [(28, .t (.int .i64 k.1)), (27, .t (.int .i64 l.length)), (26, .t (.sl (l.flatMap Mk.als) l.length false)), (11, .own ((sel l T k.1).flatMap Mk.als) (cntT T k.1) 5), (7, .ptr 4 0), (3, .ptr 0 0), (4, .ptr 1 0), (5, .ptr 2 0), (6, .ptr 3 0)], heap := [.box [.own (ints (idx T k.1)) (cntT T k.1) 6], .box [.t (.sl (l.flatMap Mk.als) l.length false)], .box (v.cs.map .t), .box [.fnc 56 [0, 1, 2, 3]], .box ((Tk.cs T).map .t), .tok (cntT T k.1) 82, .tok (cntT T k.1) 3] }) (fun k => l.length - k.1) ⟨0, by omega⟩ ?_ (fun k => by rfl) fun Q1 hQ1 ⟨k, hk⟩ I1 hI1 => ?_
  · simp (decide := true) (maxSteps := 4000000) only [go_sem, Nat.reduceAdd, Nat.reduceSub, Nat.reduceMul, Nat.reduceDiv, Nat.reduceMod, Nat.reduceLT, Nat.reduceLeDiff, Nat.reduceEqDiff, Nat.reduceBEq, Nat.reduceBNe, Nat.reduceGT, Int.reduceAdd, Int.reduceSub, Int.reduceMul, Int.reduceNeg, Int.reduceLT, Int.reduceLE, Int.reduceEq, Int.reduceNe, Int.reduceBEq, Int.reduceBNe, Int.reduceToNat, Int.reduceGT, Int.reduceGE, ↓reduceIte, decide_true, decide_false, Vial.cs, Tk.cs]
    simp [sel, idx, ints, cntT]
  · by_cases hlt : (k : Int) < l.length
    · obtain ⟨x, hx⟩ := get_lt hlt
      have hd := flat_at Mk.als (n := 1) (fun _ => rfl) hx
      have hc1 : IntKind.i64.wrap (k + 1) = ((k + 1 : Nat) : Int) := by rw [wrap_in (by omega) (by omega)]; omega
      have hd1 : l.length - (k + 1) < l.length - k := by omega
      have hk8 : (k : Int) < ((8 : Nat) : Int) := by omega
      have hk8' : (k : Int) < 8 := by omega
      rw [Nat.mul_one] at hd
      have hg := tk_get T (i := k) (by omega)
      cases ht : T.at k with
      | false =>
        rw [ht] at hg
        simp (decide := true) (maxSteps := 4000000) only [go_sem, Nat.reduceAdd, Nat.reduceSub, Nat.reduceMul, Nat.reduceDiv, Nat.reduceMod, Nat.reduceLT, Nat.reduceLeDiff, Nat.reduceEqDiff, Nat.reduceBEq, Nat.reduceBNe, Nat.reduceGT, Int.reduceAdd, Int.reduceSub, Int.reduceMul, Int.reduceNeg, Int.reduceLT, Int.reduceLE, Int.reduceEq, Int.reduceNe, Int.reduceBEq, Int.reduceBNe, Int.reduceToNat, Int.reduceGT, Int.reduceGE, ↓reduceIte, decide_true, decide_false, eq_self, Nat.mul_one, Nat.zero_mul, Nat.one_mul, Int.le_refl, Nat.le_refl, Int.cast_ofNat_Int, hlt, hd, Mk.als, Mk.al, Vial.cs, Tk.cs, hk8, hk8', hg]
        refine hI1 _ ⟨k + 1, by omega⟩ (by simp only; omega) ?_
        simp (decide := true) (maxSteps := 4000000) only [go_sem, Nat.reduceAdd, Nat.reduceSub, Nat.reduceMul, Nat.reduceDiv, Nat.reduceMod, Nat.reduceLT, Nat.reduceLeDiff, Nat.reduceEqDiff, Nat.reduceBEq, Nat.reduceBNe, Nat.reduceGT, Int.reduceAdd, Int.reduceSub, Int.reduceMul, Int.reduceNeg, Int.reduceLT, Int.reduceLE, Int.reduceEq, Int.reduceNe, Int.reduceBEq, Int.reduceBNe, Int.reduceToNat, Int.reduceGT, Int.reduceGE, ↓reduceIte, decide_true, decide_false, hc1, hd1, Vial.cs, Tk.cs, sel_f ht, idx_f ht, cnt_f ht]
      | true =>
        rw [ht] at hg
        have hcl := cnt_le T k
        have hr1 : (cntT T k + 1) * 16 ≤ 140737488355328 := by omega
        have hr2 : (cntT T k + 1) * 8 ≤ 140737488355328 := by omega
        have e1 : (List.flatMap Mk.als (sel l T k)).length = cntT T k * 1 := by rw [flat_len Mk.als (n := 1) (fun _ => rfl), sel_len (by omega)]
        have e2 : (ints (idx T k)).length = cntT T k * 1 := by rw [ints_len, idx_len, Nat.mul_one]
        rw [Nat.mul_one] at e1 e2
        simp (decide := true) (maxSteps := 4000000) only [go_sem, Nat.reduceAdd, Nat.reduceSub, Nat.reduceMul, Nat.reduceDiv, Nat.reduceMod, Nat.reduceLT, Nat.reduceLeDiff, Nat.reduceEqDiff, Nat.reduceBEq, Nat.reduceBNe, Nat.reduceGT, Int.reduceAdd, Int.reduceSub, Int.reduceMul, Int.reduceNeg, Int.reduceLT, Int.reduceLE, Int.reduceEq, Int.reduceNe, Int.reduceBEq, Int.reduceBNe, Int.reduceToNat, Int.reduceGT, Int.reduceGE, ↓reduceIte, decide_true, decide_false, eq_self, Nat.mul_one, Nat.zero_mul, Nat.one_mul, Int.le_refl, Nat.le_refl, Int.cast_ofNat_Int, hlt, hd, Mk.als, Mk.al, Vial.cs, Tk.cs, hk8, hk8', hg, hr1, hr2, e1, e2]
        refine hI1 _ ⟨k + 1, by omega⟩ (by simp only; omega) ?_
        simp (decide := true) (maxSteps := 4000000) only [go_sem, Nat.reduceAdd, Nat.reduceSub, Nat.reduceMul, Nat.reduceDiv, Nat.reduceMod, Nat.reduceLT, Nat.reduceLeDiff, Nat.reduceEqDiff, Nat.reduceBEq, Nat.reduceBNe, Nat.reduceGT, Int.reduceAdd, Int.reduceSub, Int.reduceMul, Int.reduceNeg, Int.reduceLT, Int.reduceLE, Int.reduceEq, Int.reduceNe, Int.reduceBEq, Int.reduceBNe, Int.reduceToNat, Int.reduceGT, Int.reduceGE, ↓reduceIte, decide_true, decide_false, eq_self, Nat.mul_one, Nat.zero_mul, Nat.one_mul, Int.le_refl, Nat.le_refl, Int.cast_ofNat_Int, hc1, hd1, Vial.cs, Tk.cs, sel_t ht hx, idx_t ht, cnt_t ht, List.flatMap_append, Mk.als, Mk.al, ints_snoc]
    · have hkl : k = l.length := by omega
      subst hkl
      have hcp := cnt_pos hi hti
      have hcn : ¬ cntT T l.length = 0 := by omega
      have hsl := sel_len (l := l) (T := T) (k := l.length) (Nat.le_refl _)
      have hcl := cnt_le T l.length
      have c1 : 1 ≤ (sel l T l.length).length := by omega
      have c2 : (sel l T l.length).length ≤ 100 := by omega
      have c3 := sel_ok (T := T) (k := l.length) hm
      simp (decide := true) (maxSteps := 4000000) only [go_sem, Nat.reduceAdd, Nat.reduceSub, Nat.reduceMul, Nat.reduceDiv, Nat.reduceMod, Nat.reduceLT, Nat.reduceLeDiff, Nat.reduceEqDiff, Nat.reduceBEq, Nat.reduceBNe, Nat.reduceGT, Int.reduceAdd, Int.reduceSub, Int.reduceMul, Int.reduceNeg, Int.reduceLT, Int.reduceLE, Int.reduceEq, Int.reduceNe, Int.reduceBEq, Int.reduceBNe, Int.reduceToNat, Int.reduceGT, Int.reduceGE, ↓reduceIte, decide_true, decide_false, hlt]
      refine hQ1 _ _ ?_
      rw [hsl] at c1 c2
      simp (decide := true) (maxSteps := 4000000) only [go_sem, Nat.reduceAdd, Nat.reduceSub, Nat.reduceMul, Nat.reduceDiv, Nat.reduceMod, Nat.reduceLT, Nat.reduceLeDiff, Nat.reduceEqDiff, Nat.reduceBEq, Nat.reduceBNe, Nat.reduceGT, Int.reduceAdd, Int.reduceSub, Int.reduceMul, Int.reduceNeg, Int.reduceLT, Int.reduceLE, Int.reduceEq, Int.reduceNe, Int.reduceBEq, Int.reduceBNe, Int.reduceToNat, Int.reduceGT, Int.reduceGE, ↓reduceIte, decide_true, decide_false, eq_self, Nat.mul_one, Nat.zero_mul, Nat.one_mul, Int.le_refl, Nat.le_refl, Int.cast_ofNat_Int, hcn, hv, c1, c2, c3, hsl, Vial.cs, Tk.cs, TZ.t, Span.t, Span.cs, chooseS, leafO, idx_len]
      exact ⟨_, rfl, rfl⟩
theorem choose_succ (v : Vial) (l : List Mk) (hv : v.ok = true) (hm : mksOk l = true) (hl : l.length ≤ 8) {m : Nat} (ih : ChooseC v l m) (hm8 : m ≤ 8) : ChooseC v l (m + 1) := by
  intro T fr o hf _
  have hm1 : (((m + 1 : Nat) : Int) == 0) = false := by simp; omega
  have hm2 : ((m + 1 : Nat) : Int) > 0 := by omega
  have hm3 : IntKind.i64.wrap (((m + 1 : Nat) : Int) - 1) = (m : Int) := by rw [wrap_in (by omega) (by omega)]; omega
  refine hcalls_by Try.mixes (Spec.oneH_ok (gC_ok ih) spL5_ok) (fn := Try.f56) Try.func56 rfl (by kernel_rfl) (by show 7 ≤ _; decide) ?_
  simp (decide := true) (maxSteps := 4000000) only [go_sem, Nat.reduceAdd, Nat.reduceSub, Nat.reduceMul, Nat.reduceDiv, Nat.reduceMod, Nat.reduceLT, Nat.reduceLeDiff, Nat.reduceEqDiff, Nat.reduceBEq, Nat.reduceBNe, Nat.reduceGT, Int.reduceAdd, Int.reduceSub, Int.reduceMul, Int.reduceNeg, Int.reduceLT, Int.reduceLE, Int.reduceEq, Int.reduceNe, Int.reduceBEq, Int.reduceBNe, Int.reduceToNat, Int.reduceGT, Int.reduceGE, ↓reduceIte, decide_true, decide_false, Try.f56, Tk.cs, Vial.cs, hm1]
  refine pwpC_loopQ (A := { j : Nat // fr + j ≤ 8 ∧ (l.length < fr + j → j = 0) ∧ (chooseTo v l m T fr o j).1 = false }) (fun j => { env := [(17, .t (.int .i64 ((fr + j.1 : Nat) : Int))), (2, .t (.int .i64 ((m + 1 : Nat) : Int))), (7, .ptr 4 0), (3, .ptr 0 0), (4, .ptr 1 0), (5, .ptr 2 0), (6, .ptr 3 0)], heap := [.box [.t (chooseTo v l m T fr o j.1).2], .box [.t (.sl (l.flatMap Mk.als) l.length false)], .box (v.cs.map .t), .box [.fnc 56 [0, 1, 2, 3]], .box ((Tk.cs T).map .t)] }) (fun j => l.length - (fr + j.1)) ⟨0, by omega, by omega, rfl⟩ ?_ (fun k => by rfl) fun Q1 hQ1 ⟨j, hj8, hj0, hjf⟩ I1 hI1 => ?_
  · simp (decide := true) (maxSteps := 4000000) only [go_sem, Nat.reduceAdd, Nat.reduceSub, Nat.reduceMul, Nat.reduceDiv, Nat.reduceMod, Nat.reduceLT, Nat.reduceLeDiff, Nat.reduceEqDiff, Nat.reduceBEq, Nat.reduceBNe, Nat.reduceGT, Int.reduceAdd, Int.reduceSub, Int.reduceMul, Int.reduceNeg, Int.reduceLT, Int.reduceLE, Int.reduceEq, Int.reduceNe, Int.reduceBEq, Int.reduceBNe, Int.reduceToNat, Int.reduceGT, Int.reduceGE, ↓reduceIte, decide_true, decide_false, Vial.cs, Tk.cs, chooseTo, List.range']
  · by_cases hlt : ((fr + j : Nat) : Int) < l.length
    · have hj7 : fr + j < 8 := by omega
      have hc1 : IntKind.i64.wrap (((fr + j : Nat) : Int) + 1) = ((fr + j + 1 : Nat) : Int) := by rw [wrap_in (by omega) (by omega)]; omega
      have hk8 : ((fr + j : Nat) : Int) < ((8 : Nat) : Int) := by omega
      have hk8' : ((fr + j : Nat) : Int) < 8 := by omega
      have hk9 : ((fr + j + 1 : Nat) : Int) ≤ 8 := by omega
      have hset := tk_set T hj7
      have hj77 : fr + j ≤ 7 := by omega
      have hT : 0 < m ∨ ∃ i, i < l.length ∧ Tk.at ⟨(T.set (fr + j)).b0, (T.set (fr + j)).b1, (T.set (fr + j)).b2, (T.set (fr + j)).b3, (T.set (fr + j)).b4, (T.set (fr + j)).b5, (T.set (fr + j)).b6, (T.set (fr + j)).b7⟩ i = true := by
        refine .inr ⟨fr + j, by omega, ?_⟩
        have := Tk.at_set T hj7 (fr + j)
        simp only [beq_self_eq_true, Bool.or_true] at this
        exact this
      have hnx := chooseTo_succ (v := v) (l := l) (m := m) (T := T) (fr := fr) (o := o) hjf
      have hfold : chooseS v l (m + 1) T fr o = chooseTo v l m T fr o (l.length - fr) := chooseS_succ ..
      cases hb : (chooseS v l m (T.set (fr + j)) (fr + j + 1) (chooseTo v l m T fr o j).2).1 with
      | true =>
        have hb2 : (chooseTo v l m T fr o (j + 1)).1 = true := by rw [hnx]; exact hb
        have hst := chooseTo_stop hb2 (l.length - fr - (j + 1))
        rw [show j + 1 + (l.length - fr - (j + 1)) = l.length - fr by omega] at hst
        rw [hst, hnx] at hfold
        simp (decide := true) (maxSteps := 4000000) only [go_sem, Nat.reduceAdd, Nat.reduceSub, Nat.reduceMul, Nat.reduceDiv, Nat.reduceMod, Nat.reduceLT, Nat.reduceLeDiff, Nat.reduceEqDiff, Nat.reduceBEq, Nat.reduceBNe, Nat.reduceGT, Int.reduceAdd, Int.reduceSub, Int.reduceMul, Int.reduceNeg, Int.reduceLT, Int.reduceLE, Int.reduceEq, Int.reduceNe, Int.reduceBEq, Int.reduceBNe, Int.reduceToNat, Int.reduceGT, Int.reduceGE, ↓reduceIte, decide_true, decide_false, eq_self, Nat.mul_one, Nat.zero_mul, Nat.one_mul, Int.le_refl, Nat.le_refl, Int.cast_ofNat_Int, hlt, hm2, hm3, Vial.cs, Tk.cs, hc1, hk8, hk8', hk9, hset, hj77, hT, gC, hb]
        refine hQ1 _ _ ?_
        simp (decide := true) (maxSteps := 4000000) only [go_sem, Nat.reduceAdd, Nat.reduceSub, Nat.reduceMul, Nat.reduceDiv, Nat.reduceMod, Nat.reduceLT, Nat.reduceLeDiff, Nat.reduceEqDiff, Nat.reduceBEq, Nat.reduceBNe, Nat.reduceGT, Int.reduceAdd, Int.reduceSub, Int.reduceMul, Int.reduceNeg, Int.reduceLT, Int.reduceLE, Int.reduceEq, Int.reduceNe, Int.reduceBEq, Int.reduceBNe, Int.reduceToNat, Int.reduceGT, Int.reduceGE, ↓reduceIte, decide_true, decide_false, eq_self, Nat.mul_one, Nat.zero_mul, Nat.one_mul, Int.le_refl, Nat.le_refl, Int.cast_ofNat_Int, hfold, hb, Vial.cs]
        exact ⟨_, rfl, rfl⟩
      | false =>
        simp (decide := true) (maxSteps := 4000000) only [go_sem, Nat.reduceAdd, Nat.reduceSub, Nat.reduceMul, Nat.reduceDiv, Nat.reduceMod, Nat.reduceLT, Nat.reduceLeDiff, Nat.reduceEqDiff, Nat.reduceBEq, Nat.reduceBNe, Nat.reduceGT, Int.reduceAdd, Int.reduceSub, Int.reduceMul, Int.reduceNeg, Int.reduceLT, Int.reduceLE, Int.reduceEq, Int.reduceNe, Int.reduceBEq, Int.reduceBNe, Int.reduceToNat, Int.reduceGT, Int.reduceGE, ↓reduceIte, decide_true, decide_false, eq_self, Nat.mul_one, Nat.zero_mul, Nat.one_mul, Int.le_refl, Nat.le_refl, Int.cast_ofNat_Int, hlt, hm2, hm3, Vial.cs, Tk.cs, hc1, hk8, hk8', hk9, hset, hj77, hT, gC, hb]
        refine hI1 _ ⟨j + 1, by omega, by omega, by rw [hnx]; exact hb⟩ (by simp only; omega) ?_
        simp (decide := true) (maxSteps := 4000000) only [go_sem, Nat.reduceAdd, Nat.reduceSub, Nat.reduceMul, Nat.reduceDiv, Nat.reduceMod, Nat.reduceLT, Nat.reduceLeDiff, Nat.reduceEqDiff, Nat.reduceBEq, Nat.reduceBNe, Nat.reduceGT, Int.reduceAdd, Int.reduceSub, Int.reduceMul, Int.reduceNeg, Int.reduceLT, Int.reduceLE, Int.reduceEq, Int.reduceNe, Int.reduceBEq, Int.reduceBNe, Int.reduceToNat, Int.reduceGT, Int.reduceGE, ↓reduceIte, decide_true, decide_false, eq_self, Nat.mul_one, Nat.zero_mul, Nat.one_mul, Int.le_refl, Nat.le_refl, Int.cast_ofNat_Int, hc1, Vial.cs, Tk.cs, hnx]
        rw [Nat.add_assoc]
    · simp (decide := true) (maxSteps := 4000000) only [go_sem, Nat.reduceAdd, Nat.reduceSub, Nat.reduceMul, Nat.reduceDiv, Nat.reduceMod, Nat.reduceLT, Nat.reduceLeDiff, Nat.reduceEqDiff, Nat.reduceBEq, Nat.reduceBNe, Nat.reduceGT, Int.reduceAdd, Int.reduceSub, Int.reduceMul, Int.reduceNeg, Int.reduceLT, Int.reduceLE, Int.reduceEq, Int.reduceNe, Int.reduceBEq, Int.reduceBNe, Int.reduceToNat, Int.reduceGT, Int.reduceGE, ↓reduceIte, decide_true, decide_false, eq_self, Nat.mul_one, Nat.zero_mul, Nat.one_mul, Int.le_refl, Nat.le_refl, Int.cast_ofNat_Int, hlt, hm2]
      refine hQ1 _ _ ?_
      have hfold : chooseS v l (m + 1) T fr o = chooseTo v l m T fr o (l.length - fr) := chooseS_succ ..
      have hje : j = l.length - fr := by omega
      rw [← hje] at hfold
      simp (decide := true) (maxSteps := 4000000) only [go_sem, Nat.reduceAdd, Nat.reduceSub, Nat.reduceMul, Nat.reduceDiv, Nat.reduceMod, Nat.reduceLT, Nat.reduceLeDiff, Nat.reduceEqDiff, Nat.reduceBEq, Nat.reduceBNe, Nat.reduceGT, Int.reduceAdd, Int.reduceSub, Int.reduceMul, Int.reduceNeg, Int.reduceLT, Int.reduceLE, Int.reduceEq, Int.reduceNe, Int.reduceBEq, Int.reduceBNe, Int.reduceToNat, Int.reduceGT, Int.reduceGE, ↓reduceIte, decide_true, decide_false, eq_self, Nat.mul_one, Nat.zero_mul, Nat.one_mul, Int.le_refl, Nat.le_refl, Int.cast_ofNat_Int, hfold, hjf, Vial.cs]
      exact ⟨_, rfl, rfl⟩
theorem choose_all (v : Vial) (l : List Mk) (hv : v.ok = true) (hm : mksOk l = true) (hl : l.length ≤ 8) : ∀ m, m ≤ 8 → ChooseC v l m
  | 0, _ => choose_zero v l hv hm hl
  | m + 1, h => choose_succ v l hv hm hl (choose_all v l hv hm hl m (by omega)) (by omega)
noncomputable def gA (v : Vial) (l : List Mk) : List PV → List PO → Option (PV × List PO)
  | [t, fr, .t (.int .i64 mm), a, b, c, d], hl => if mm.toNat ≤ 8 then gC v l mm.toNat [t, fr, .t (.int .i64 mm), a, b, c, d] hl else none
  | _, _ => none
theorem gA_ok {v : Vial} {l : List Mk} (h : ∀ m, m ≤ 8 → ChooseC v l m) : ∀ xs hl r hl', gA v l xs hl = some (r, hl') → HCalls Try.prog 56 xs (getL hl) r (getL hl') := by
  intro xs hl r hl' hg
  unfold gA at hg
  split at hg
  · split at hg
    · rename_i hc; exact gC_ok (h _ hc) _ _ _ _ hg
    · cases hg
  · cases hg
theorem lFalse_c (v : Vial) {l : List Rd} {s : TV} (hs : IsRow Rd.cs s l) (hl : l.length ≤ 5864062014806) : PCalls Try.prog 23 [v.t, s] (.tup [(falseP v l).1, .int .i64 (falseP v l).2]) := by
  unfold falseP
  by_cases hk : asked v l = 0
  · obtain ⟨hv, hr⟩ := asked_zero hk
    have hm := mksOk_mid hv hr
    have h8 := rdsOk_len hr
    have h100 : l.length ≤ 100 := by omega
    have ho := openedT_yes hk
    have hml : (l.map mid).length = l.length := List.length_map _
    have hca := choose_all v (l.map mid) hv hm (by omega)
    refine pcalls_by Try.mixes (Spec.oneH_ok (gA_ok hca) spL5_ok) (fn := Try.f23) Try.func23 rfl (by kernel_rfl) (by show 2 ≤ _; decide) ?_
    obtain ⟨full, rfl⟩ := hs.ne h8.1
    cases hi : (tilts v (l.map mid)).is with
    | true => simp (decide := true) (maxSteps := 4000000) only [go_sem, Nat.reduceAdd, Nat.reduceSub, Nat.reduceMul, Nat.reduceDiv, Nat.reduceMod, Nat.reduceLT, Nat.reduceLeDiff, Nat.reduceEqDiff, Nat.reduceBEq, Nat.reduceBNe, Nat.reduceGT, Int.reduceAdd, Int.reduceSub, Int.reduceMul, Int.reduceNeg, Int.reduceLT, Int.reduceLE, Int.reduceEq, Int.reduceNe, Int.reduceBEq, Int.reduceBNe, Int.reduceToNat, Int.reduceGT, Int.reduceGE, ↓reduceIte, decide_true, decide_false, Try.f23, Vial.t, Vial.cs, hk, hl, ho, hv, h8.1, h8.2, h100, hm, List.length_map, TZ.t, Span.t, Span.cs, hi]
    | false =>
      simp (decide := true) (maxSteps := 4000000) only [go_sem, Nat.reduceAdd, Nat.reduceSub, Nat.reduceMul, Nat.reduceDiv, Nat.reduceMod, Nat.reduceLT, Nat.reduceLeDiff, Nat.reduceEqDiff, Nat.reduceBEq, Nat.reduceBNe, Nat.reduceGT, Int.reduceAdd, Int.reduceSub, Int.reduceMul, Int.reduceNeg, Int.reduceLT, Int.reduceLE, Int.reduceEq, Int.reduceNe, Int.reduceBEq, Int.reduceBNe, Int.reduceToNat, Int.reduceGT, Int.reduceGE, ↓reduceIte, decide_true, decide_false, Try.f23, Vial.t, Vial.cs, hk, hl, ho, hv, h8.1, h8.2, h100, hm, List.length_map, TZ.t, Span.t, Span.cs, hi]
      refine pwpC_loopQ (A := { k : Nat // k ≤ l.length ∧ (falseTo v (l.map mid) k).1 = false }) (fun k => { env := [(36, .t (.int .i64 k.1)), (35, .t (.int .i64 l.length)), (13, .ptr 6 0), (12, .ptr 5 0)], heap := [.box (v.cs.map .t), .box (v.cs.map .t), .box [.t (.sl ((l.map mid).flatMap Mk.als) l.length false)], .box ((tilts v (l.map mid)).tilt.cs.map .t), .box ((tilts v (l.map mid)).zero.cs.map .t), .box [.t (falseTo v (l.map mid) k.1).2], .box [.fnc 56 [5, 2, 1, 6]]] }) (fun k => l.length - k.1) ⟨0, by omega, rfl⟩ ?_ (fun k => by rfl) fun Q1 hQ1 ⟨k, hk1, hkf⟩ I1 hI1 => ?_
      · simp (decide := true) (maxSteps := 4000000) only [go_sem, Nat.reduceAdd, Nat.reduceSub, Nat.reduceMul, Nat.reduceDiv, Nat.reduceMod, Nat.reduceLT, Nat.reduceLeDiff, Nat.reduceEqDiff, Nat.reduceBEq, Nat.reduceBNe, Nat.reduceGT, Int.reduceAdd, Int.reduceSub, Int.reduceMul, Int.reduceNeg, Int.reduceLT, Int.reduceLE, Int.reduceEq, Int.reduceNe, Int.reduceBEq, Int.reduceBNe, Int.reduceToNat, Int.reduceGT, Int.reduceGE, ↓reduceIte, decide_true, decide_false, Vial.cs, Span.cs, falseTo]
      · by_cases hlt : (k : Int) < l.length
        · have hc1 : IntKind.i64.wrap (k + 1) = ((k + 1 : Nat) : Int) := by rw [wrap_in (by omega) (by omega)]; omega
          have hk8 : k + 1 ≤ 8 := by omega
          have hk7 : k ≤ 7 := by omega
          have hT : 0 < k + 1 ∨ ∃ i, i < (l.map mid).length ∧ Tk.at ⟨false, false, false, false, false, false, false, false⟩ i = true := .inl (by omega)
          have hT' : 0 < k + 1 ∨ ∃ i, i < l.length ∧ Tk.at ⟨false, false, false, false, false, false, false, false⟩ i = true := .inl (by omega)
          have hnx := falseTo_next hkf
          unfold Tk.none at hnx
          cases hb : (chooseS v (l.map mid) (k + 1) ⟨false, false, false, false, false, false, false, false⟩ 0 (falseTo v (l.map mid) k).2).1 with
          | true =>
            have hst := falseTo_stop (d := l.length - (k + 1)) (by rw [hnx]; exact hb)
            rw [show k + 1 + (l.length - (k + 1)) = l.length by omega, hnx] at hst
            simp (decide := true) (maxSteps := 4000000) only [go_sem, Nat.reduceAdd, Nat.reduceSub, Nat.reduceMul, Nat.reduceDiv, Nat.reduceMod, Nat.reduceLT, Nat.reduceLeDiff, Nat.reduceEqDiff, Nat.reduceBEq, Nat.reduceBNe, Nat.reduceGT, Int.reduceAdd, Int.reduceSub, Int.reduceMul, Int.reduceNeg, Int.reduceLT, Int.reduceLE, Int.reduceEq, Int.reduceNe, Int.reduceBEq, Int.reduceBNe, Int.reduceToNat, Int.reduceGT, Int.reduceGE, ↓reduceIte, decide_true, decide_false, eq_self, Nat.mul_one, Nat.zero_mul, Nat.one_mul, Int.le_refl, Nat.le_refl, Int.cast_ofNat_Int, hlt, hc1, hk8, hk7, Vial.cs, Span.cs, gA, gC, hT, hT', hb, List.length_map]
            refine hQ1 _ _ ?_
            simp (decide := true) (maxSteps := 4000000) only [go_sem, Nat.reduceAdd, Nat.reduceSub, Nat.reduceMul, Nat.reduceDiv, Nat.reduceMod, Nat.reduceLT, Nat.reduceLeDiff, Nat.reduceEqDiff, Nat.reduceBEq, Nat.reduceBNe, Nat.reduceGT, Int.reduceAdd, Int.reduceSub, Int.reduceMul, Int.reduceNeg, Int.reduceLT, Int.reduceLE, Int.reduceEq, Int.reduceNe, Int.reduceBEq, Int.reduceBNe, Int.reduceToNat, Int.reduceGT, Int.reduceGE, ↓reduceIte, decide_true, decide_false, eq_self, Nat.mul_one, Nat.zero_mul, Nat.one_mul, Int.le_refl, Nat.le_refl, Int.cast_ofNat_Int, hst, Vial.cs]
          | false =>
            simp (decide := true) (maxSteps := 4000000) only [go_sem, Nat.reduceAdd, Nat.reduceSub, Nat.reduceMul, Nat.reduceDiv, Nat.reduceMod, Nat.reduceLT, Nat.reduceLeDiff, Nat.reduceEqDiff, Nat.reduceBEq, Nat.reduceBNe, Nat.reduceGT, Int.reduceAdd, Int.reduceSub, Int.reduceMul, Int.reduceNeg, Int.reduceLT, Int.reduceLE, Int.reduceEq, Int.reduceNe, Int.reduceBEq, Int.reduceBNe, Int.reduceToNat, Int.reduceGT, Int.reduceGE, ↓reduceIte, decide_true, decide_false, eq_self, Nat.mul_one, Nat.zero_mul, Nat.one_mul, Int.le_refl, Nat.le_refl, Int.cast_ofNat_Int, hlt, hc1, hk8, hk7, Vial.cs, Span.cs, gA, gC, hT, hT', hb, List.length_map]
            refine hI1 _ ⟨k + 1, by omega, by rw [hnx]; exact hb⟩ (by simp only; omega) ?_
            simp (decide := true) (maxSteps := 4000000) only [go_sem, Nat.reduceAdd, Nat.reduceSub, Nat.reduceMul, Nat.reduceDiv, Nat.reduceMod, Nat.reduceLT, Nat.reduceLeDiff, Nat.reduceEqDiff, Nat.reduceBEq, Nat.reduceBNe, Nat.reduceGT, Int.reduceAdd, Int.reduceSub, Int.reduceMul, Int.reduceNeg, Int.reduceLT, Int.reduceLE, Int.reduceEq, Int.reduceNe, Int.reduceBEq, Int.reduceBNe, Int.reduceToNat, Int.reduceGT, Int.reduceGE, ↓reduceIte, decide_true, decide_false, eq_self, Nat.mul_one, Nat.zero_mul, Nat.one_mul, Int.le_refl, Nat.le_refl, Int.cast_ofNat_Int, hc1, Vial.cs, Span.cs, hnx, List.length_map]
        · have hkl : k = l.length := by omega
          subst hkl
          simp (decide := true) (maxSteps := 4000000) only [go_sem, Nat.reduceAdd, Nat.reduceSub, Nat.reduceMul, Nat.reduceDiv, Nat.reduceMod, Nat.reduceLT, Nat.reduceLeDiff, Nat.reduceEqDiff, Nat.reduceBEq, Nat.reduceBNe, Nat.reduceGT, Int.reduceAdd, Int.reduceSub, Int.reduceMul, Int.reduceNeg, Int.reduceLT, Int.reduceLE, Int.reduceEq, Int.reduceNe, Int.reduceBEq, Int.reduceBNe, Int.reduceToNat, Int.reduceGT, Int.reduceGE, ↓reduceIte, decide_true, decide_false, eq_self, Nat.mul_one, Nat.zero_mul, Nat.one_mul, Int.le_refl, Nat.le_refl, Int.cast_ofNat_Int, hlt]
          refine hQ1 _ _ ?_
          simp (decide := true) (maxSteps := 4000000) only [go_sem, Nat.reduceAdd, Nat.reduceSub, Nat.reduceMul, Nat.reduceDiv, Nat.reduceMod, Nat.reduceLT, Nat.reduceLeDiff, Nat.reduceEqDiff, Nat.reduceBEq, Nat.reduceBNe, Nat.reduceGT, Int.reduceAdd, Int.reduceSub, Int.reduceMul, Int.reduceNeg, Int.reduceLT, Int.reduceLE, Int.reduceEq, Int.reduceNe, Int.reduceBEq, Int.reduceBNe, Int.reduceToNat, Int.reduceGT, Int.reduceGE, ↓reduceIte, decide_true, decide_false, eq_self, Nat.mul_one, Nat.zero_mul, Nat.one_mul, Int.le_refl, Nat.le_refl, Int.cast_ofNat_Int, Vial.cs]
  · refine pcalls_by Try.mixes spL5_ok (fn := Try.f23) Try.func23 rfl (by kernel_rfl) (by show 2 ≤ _; decide) ?_
    obtain ⟨u, ho⟩ := openedT_no hk
    have hk' : (asked v l != 0) = true := by simpa using hk
    rcases hs with ⟨rfl, rfl⟩ | ⟨full, rfl⟩ <;> simp (decide := true) (maxSteps := 4000000) only [go_sem, Nat.reduceAdd, Nat.reduceSub, Nat.reduceMul, Nat.reduceDiv, Nat.reduceMod, Nat.reduceLT, Nat.reduceLeDiff, Nat.reduceEqDiff, Nat.reduceBEq, Nat.reduceBNe, Nat.reduceGT, Int.reduceAdd, Int.reduceSub, Int.reduceMul, Int.reduceNeg, Int.reduceLT, Int.reduceLE, Int.reduceEq, Int.reduceNe, Int.reduceBEq, Int.reduceBNe, Int.reduceToNat, Int.reduceGT, Int.reduceGE, ↓reduceIte, decide_true, decide_false, Try.f23, Vial.t, Vial.cs, unRds, hl, ho, hk, hk']
end Go.Proofs.Ytgofljmnlfnlnaa

/- Part Lh. -/
namespace Go.Oc
open Go Go.Pm
/-- A vial that is offered. -/
structure Of where
  v : Vial
  i : Int
  p : Int
  deriving DecidableEq
def Of.cs (x : Of) : List TV := [.int .i64 x.v.marks, .int .i64 x.v.l0, .int .i64 x.v.l1, .int .i64 x.v.v0, .int .i64 x.v.v1, .int .i64 x.v.z0, .int .i64 x.v.z1, .int .i64 x.v.wr, .int .i64 x.i, .int .i64 x.p]
def unOfs : List TV → Option (List Of)
  | [] => some []
  | .int .i64 a :: .int .i64 b :: .int .i64 c :: .int .i64 d :: .int .i64 e :: .int .i64 f :: .int .i64 g :: .int .i64 h :: .int .i64 i :: .int .i64 p :: r => (unOfs r).map (⟨⟨a, b, c, d, e, f, g, h⟩, i, p⟩ :: ·)
  | _ => none
theorem unOfs_eq : ∀ l : List Of, unOfs (l.flatMap Of.cs) = some l
  | [] => rfl
  | x :: l => by simp [Of.cs, unOfs, unOfs_eq l]
theorem unOfs_some : ∀ {cs : List TV} {l : List Of}, unOfs cs = some l → cs = l.flatMap Of.cs := by
  intro cs
  induction cs using unOfs.induct with
  | case1 => intro l h; simp [unOfs] at h; subst h; rfl
  | case2 a b c d e f g h i p r ih =>
    intro l hh
    simp only [unOfs, Option.map_eq_some_iff] at hh
    obtain ⟨l', h1, rfl⟩ := hh
    rw [ih h1]; rfl
  | case3 r h1 h2 =>
    intro l h
    unfold unOfs at h
    split at h
    · exact absurd rfl h1
    · exact absurd rfl (h2 _ _ _ _ _ _ _ _ _ _ _)
    · cases h
attribute [go_sem] unOfs_eq
def bestStep (b : Option Of) (x : Of) : Option Of := match b with | none => some x | some y => if x.p < y.p then some x else some y
def bestTo (l : List Of) (k : Nat) : Option Of := (l.take k).foldl bestStep none
def bestOf (l : List Of) : Option Of := l.foldl bestStep none
def Of.zero : Of := ⟨⟨0, 0, 0, 0, 0, 0, 0, 0⟩, 0, 0⟩
theorem bestTo_succ {l : List Of} {k : Nat} {x : Of} (h : l[k]? = some x) : bestTo l (k + 1) = bestStep (bestTo l k) x := by
  unfold bestTo; rw [take_snoc h, List.foldl_append]; rfl
theorem bestTo_some {l : List Of} : ∀ {k : Nat}, 0 < k → k ≤ l.length → ∃ y, bestTo l k = some y
  | k + 1, _, h => by
    rw [bestTo_succ (List.getElem?_eq_getElem (show k < l.length by omega))]
    unfold bestStep
    split
    · exact ⟨_, rfl⟩
    · split <;> exact ⟨_, rfl⟩
/-- Is a stock right, as far as it was looked at? -/
def okBase (n np : Nat) (rg fl : Int) : Bool := inB n 1 10 && ((np : Int) == (n : Int)) && inB rg 0 100000 && inB fl 0 100000
def okAt (st : List Vial) (pr : List Int) (i : Nat) : Bool := match st[i]?, pr[i]? with | some v, some p => v.ok && inB p 0 1000 | _, _ => false
def okTo (st : List Vial) (pr : List Int) (rg fl : Int) (k : Nat) : Bool := okBase st.length pr.length rg fl && (List.range k).all (okAt st pr)
theorem okTo_succ (st : List Vial) (pr : List Int) (rg fl : Int) (k : Nat) : okTo st pr rg fl (k + 1) = (okTo st pr rg fl k && okAt st pr k) := by
  unfold okTo; rw [List.range_succ, List.all_append]; simp [Bool.and_assoc]
def offAt (st : List Vial) (pr : List Int) (rg fl : Int) (i : Nat) : Option Of := match st[i]?, pr[i]? with | some v, some p => if doesP v rg fl then some ⟨v, i, p⟩ else none | _, _ => none
def offTo (st : List Vial) (pr : List Int) (rg fl : Int) (k : Nat) : List Of := (List.range k).filterMap (offAt st pr rg fl)
theorem offTo_t {st : List Vial} {pr : List Int} {rg fl : Int} {k : Nat} {x : Of} (h : offAt st pr rg fl k = some x) : offTo st pr rg fl (k + 1) = offTo st pr rg fl k ++ [x] := by
  simp [offTo, List.range_succ, h]
theorem offTo_f {st : List Vial} {pr : List Int} {rg fl : Int} {k : Nat} (h : offAt st pr rg fl k = none) : offTo st pr rg fl (k + 1) = offTo st pr rg fl k := by
  simp [offTo, List.range_succ, h]
theorem offTo_le (st : List Vial) (pr : List Int) (rg fl : Int) (k : Nat) : (offTo st pr rg fl k).length ≤ k := by
  have := List.length_filterMap_le (offAt st pr rg fl) (List.range k)
  simpa [offTo] using this
/-- What Choose hands back. -/
def chooseP (st : List Vial) (pr : List Int) (rg fl : Int) : Int × Int :=
  if okTo st pr rg fl st.length then (match bestOf (offTo st pr rg fl st.length) with | some x => (x.i, 0) | none => (0, 4)) else (0, 34)
def ic (x : Int) : List TV := [.int .i64 x]
theorem ic_ints : ∀ l : List Int, l.flatMap ic = ints l
  | [] => rfl
  | x :: l => by rw [List.flatMap_cons, ic_ints l]; rfl
def unVials : List TV → Option (List Vial)
  | [] => some []
  | .int .i64 a :: .int .i64 b :: .int .i64 c :: .int .i64 d :: .int .i64 e :: .int .i64 f :: .int .i64 g :: .int .i64 h :: r => (unVials r).map (⟨a, b, c, d, e, f, g, h⟩ :: ·)
  | _ => none
theorem unVials_eq : ∀ l : List Vial, unVials (l.flatMap Vial.cs) = some l
  | [] => rfl
  | x :: l => by simp [Vial.cs, unVials, unVials_eq l]
theorem unVials_some : ∀ {cs : List TV} {l : List Vial}, unVials cs = some l → cs = l.flatMap Vial.cs := by
  intro cs
  induction cs using unVials.induct with
  | case1 => intro l h; simp [unVials] at h; subst h; rfl
  | case2 a b c d e f g h r ih =>
    intro l hh
    simp only [unVials, Option.map_eq_some_iff] at hh
    obtain ⟨l', h1, rfl⟩ := hh
    rw [ih h1]; rfl
  | case3 r h1 h2 =>
    intro l h
    unfold unVials at h
    split at h
    · exact absurd rfl h1
    · exact absurd rfl (h2 _ _ _ _ _ _ _ _ _)
    · cases h
attribute [go_sem] unVials_eq
end Go.Oc
namespace Go.Proofs.Ytgofljmnlfnlnaa
open Go.RowKit Go.Pm Go.Oc
set_option maxRecDepth 100000
set_option linter.unusedVariables false
set_option maxHeartbeats 4000000

theorem lPrice_c (x : Of) : PCalls Try.prog 66 [.agg x.cs] (.int .i64 x.p) := by
  refine pcalls_by Try.mixes noSpec_ok (fn := Try.f66) Try.func66 rfl (by kernel_rfl) (by show 1 ≤ _; decide) ?_
  simp (decide := true) (maxSteps := 4000000) only [go_sem, Nat.reduceAdd, Nat.reduceSub, Nat.reduceMul, Nat.reduceDiv, Nat.reduceMod, Nat.reduceLT, Nat.reduceLeDiff, Nat.reduceEqDiff, Nat.reduceBEq, Nat.reduceBNe, Nat.reduceGT, Int.reduceAdd, Int.reduceSub, Int.reduceMul, Int.reduceNeg, Int.reduceLT, Int.reduceLE, Int.reduceEq, Int.reduceNe, Int.reduceBEq, Int.reduceBNe, Int.reduceToNat, Int.reduceGT, Int.reduceGE, ↓reduceIte, decide_true, decide_false, Try.f66, Of.cs]
noncomputable def glPrice : List TV → Option TV
  | [.agg [.int .i64 a, .int .i64 b, .int .i64 c, .int .i64 d, .int .i64 e, .int .i64 f, .int .i64 g, .int .i64 h, .int .i64 i, .int .i64 p]] => some (.int .i64 p)
  | _ => none
theorem glPrice_ok : ∀ xs r, glPrice xs = some r → PCalls Try.prog 66 xs r := by
  intro xs r h
  unfold glPrice at h
  split at h
  · cases h; exact lPrice_c ⟨⟨_, _, _, _, _, _, _, _⟩, _, _⟩
  · cases h
attribute [go_sem] glPrice
noncomputable def spH1 : Pm.Spec := spD3.one 66 glPrice
@[go_sem] theorem spH1_p (f : FuncId) (xs : List TV) : spH1.p f xs = Pm.Spec.p (spD3.one 66 glPrice) f xs := rfl
@[go_sem] theorem spH1_h (f : FuncId) (ps : List PV) (hl : List PO) : spH1.h f ps hl = Pm.Spec.h (spD3.one 66 glPrice) f ps hl := rfl
@[go_sem] theorem spH1_fz (f : FuncId) : spH1.fz f = Pm.Spec.fz (spD3.one 66 glPrice) f := rfl
@[go_sem] theorem spH1_fr (f : FuncId) : spH1.fr f = Pm.Spec.fr (spD3.one 66 glPrice) f := rfl
@[go_sem] theorem spH1_mu (t : TypeId) : spH1.mu t = Pm.Spec.mu (spD3.one 66 glPrice) t := rfl
theorem spH1_ok : SpecOk Try.prog spH1 := Spec.one_ok glPrice_ok spD3_ok
theorem lCheapest_c (l : List Of) (full : Bool) (hl : l.length ≤ 1000) : PCalls Try.prog 65 [.fn 66 [] [], .sl (l.flatMap Of.cs) l.length full] (.tup [.agg ((bestOf l).getD Of.zero).cs, .bool (decide ((l.length : Int) > 0))]) := by
  refine pcalls_by Try.mixes spH1_ok (fn := Try.f65) Try.func65 rfl (by kernel_rfl) (by show 2 ≤ _; decide) ?_
  simp (decide := true) (maxSteps := 4000000) only [go_sem, Nat.reduceAdd, Nat.reduceSub, Nat.reduceMul, Nat.reduceDiv, Nat.reduceMod, Nat.reduceLT, Nat.reduceLeDiff, Nat.reduceEqDiff, Nat.reduceBEq, Nat.reduceBNe, Nat.reduceGT, Int.reduceAdd, Int.reduceSub, Int.reduceMul, Int.reduceNeg, Int.reduceLT, Int.reduceLE, Int.reduceEq, Int.reduceNe, Int.reduceBEq, Int.reduceBNe, Int.reduceToNat, Int.reduceGT, Int.reduceGE, ↓reduceIte, decide_true, decide_false, Try.f65]
  refine pwpC_loopQ (A := { k : Nat // k ≤ l.length }) (fun k => { env := [(11, .t (.int .i64 k.1)), (10, .t (.int .i64 l.length)), (9, .t (.sl (l.flatMap Of.cs) l.length full)), (0, .t (.fn 66 [] [])), (1, .t (.sl (l.flatMap Of.cs) l.length full)), (4, .ptr 0 0), (6, .ptr 1 0)], heap := [.box (Of.zero.cs.map .t), .box (((bestTo l k.1).getD Of.zero).cs.map .t)] }) (fun k => l.length - k.1) ⟨0, by omega⟩ ?_ (fun k => by rfl) fun Q1 hQ1 ⟨k, hk⟩ I1 hI1 => ?_
  · simp (decide := true) (maxSteps := 4000000) only [go_sem, Nat.reduceAdd, Nat.reduceSub, Nat.reduceMul, Nat.reduceDiv, Nat.reduceMod, Nat.reduceLT, Nat.reduceLeDiff, Nat.reduceEqDiff, Nat.reduceBEq, Nat.reduceBNe, Nat.reduceGT, Int.reduceAdd, Int.reduceSub, Int.reduceMul, Int.reduceNeg, Int.reduceLT, Int.reduceLE, Int.reduceEq, Int.reduceNe, Int.reduceBEq, Int.reduceBNe, Int.reduceToNat, Int.reduceGT, Int.reduceGE, ↓reduceIte, decide_true, decide_false, Of.cs, Of.zero, bestTo]
  · by_cases hlt : (k : Int) < l.length
    · obtain ⟨x, hx⟩ := get_lt hlt
      have hd := flat_at Of.cs (n := 10) (fun _ => rfl) hx
      have hc1 : IntKind.i64.wrap (k + 1) = ((k + 1 : Nat) : Int) := by rw [wrap_in (by omega) (by omega)]; omega
      have hs := bestTo_succ hx
      rcases Nat.eq_zero_or_pos k with h0 | h0
      · subst h0
        have e0 : (((0 : Nat) : Int) == 0) = true := rfl
        have hb0 : bestTo l 0 = none := rfl
        rw [hb0] at hs
        simp (decide := true) (maxSteps := 4000000) only [go_sem, Nat.reduceAdd, Nat.reduceSub, Nat.reduceMul, Nat.reduceDiv, Nat.reduceMod, Nat.reduceLT, Nat.reduceLeDiff, Nat.reduceEqDiff, Nat.reduceBEq, Nat.reduceBNe, Nat.reduceGT, Int.reduceAdd, Int.reduceSub, Int.reduceMul, Int.reduceNeg, Int.reduceLT, Int.reduceLE, Int.reduceEq, Int.reduceNe, Int.reduceBEq, Int.reduceBNe, Int.reduceToNat, Int.reduceGT, Int.reduceGE, ↓reduceIte, decide_true, decide_false, hlt, hd, Of.cs, Of.zero, e0]
        refine hI1 _ ⟨1, by omega⟩ (by simp only; omega) ?_
        simp (decide := true) (maxSteps := 4000000) only [go_sem, Nat.reduceAdd, Nat.reduceSub, Nat.reduceMul, Nat.reduceDiv, Nat.reduceMod, Nat.reduceLT, Nat.reduceLeDiff, Nat.reduceEqDiff, Nat.reduceBEq, Nat.reduceBNe, Nat.reduceGT, Int.reduceAdd, Int.reduceSub, Int.reduceMul, Int.reduceNeg, Int.reduceLT, Int.reduceLE, Int.reduceEq, Int.reduceNe, Int.reduceBEq, Int.reduceBNe, Int.reduceToNat, Int.reduceGT, Int.reduceGE, ↓reduceIte, decide_true, decide_false, hc1, hs, bestStep, Of.cs, Of.zero]
      · obtain ⟨y, hy⟩ := bestTo_some h0 hk
        have e0 : ((k : Int) == 0) = false := by simp; omega
        rw [hy] at hs
        by_cases hp : x.p < y.p
        · simp (decide := true) (maxSteps := 4000000) only [go_sem, Nat.reduceAdd, Nat.reduceSub, Nat.reduceMul, Nat.reduceDiv, Nat.reduceMod, Nat.reduceLT, Nat.reduceLeDiff, Nat.reduceEqDiff, Nat.reduceBEq, Nat.reduceBNe, Nat.reduceGT, Int.reduceAdd, Int.reduceSub, Int.reduceMul, Int.reduceNeg, Int.reduceLT, Int.reduceLE, Int.reduceEq, Int.reduceNe, Int.reduceBEq, Int.reduceBNe, Int.reduceToNat, Int.reduceGT, Int.reduceGE, ↓reduceIte, decide_true, decide_false, hlt, hd, Of.cs, Of.zero, e0, hy, hp]
          refine hI1 _ ⟨k + 1, by omega⟩ (by simp only; omega) ?_
          simp (decide := true) (maxSteps := 4000000) only [go_sem, Nat.reduceAdd, Nat.reduceSub, Nat.reduceMul, Nat.reduceDiv, Nat.reduceMod, Nat.reduceLT, Nat.reduceLeDiff, Nat.reduceEqDiff, Nat.reduceBEq, Nat.reduceBNe, Nat.reduceGT, Int.reduceAdd, Int.reduceSub, Int.reduceMul, Int.reduceNeg, Int.reduceLT, Int.reduceLE, Int.reduceEq, Int.reduceNe, Int.reduceBEq, Int.reduceBNe, Int.reduceToNat, Int.reduceGT, Int.reduceGE, ↓reduceIte, decide_true, decide_false, hc1, hs, bestStep, hp, Of.cs, Of.zero]
        · simp (decide := true) (maxSteps := 4000000) only [go_sem, Nat.reduceAdd, Nat.reduceSub, Nat.reduceMul, Nat.reduceDiv, Nat.reduceMod, Nat.reduceLT, Nat.reduceLeDiff, Nat.reduceEqDiff, Nat.reduceBEq, Nat.reduceBNe, Nat.reduceGT, Int.reduceAdd, Int.reduceSub, Int.reduceMul, Int.reduceNeg, Int.reduceLT, Int.reduceLE, Int.reduceEq, Int.reduceNe, Int.reduceBEq, Int.reduceBNe, Int.reduceToNat, Int.reduceGT, Int.reduceGE, ↓reduceIte, decide_true, decide_false, hlt, hd, Of.cs, Of.zero, e0, hy, hp]
          refine hI1 _ ⟨k + 1, by omega⟩ (by simp only; omega) ?_
          simp (decide := true) (maxSteps := 4000000) only [go_sem, Nat.reduceAdd, Nat.reduceSub, Nat.reduceMul, Nat.reduceDiv, Nat.reduceMod, Nat.reduceLT, Nat.reduceLeDiff, Nat.reduceEqDiff, Nat.reduceBEq, Nat.reduceBNe, Nat.reduceGT, Int.reduceAdd, Int.reduceSub, Int.reduceMul, Int.reduceNeg, Int.reduceLT, Int.reduceLE, Int.reduceEq, Int.reduceNe, Int.reduceBEq, Int.reduceBNe, Int.reduceToNat, Int.reduceGT, Int.reduceGE, ↓reduceIte, decide_true, decide_false, hc1, hs, bestStep, hp, Of.cs, Of.zero, hy]
    · have hkl : k = l.length := by omega
      subst hkl
      have hbe : bestTo l l.length = bestOf l := by unfold bestTo; rw [List.take_length]; rfl
      simp (decide := true) (maxSteps := 4000000) only [go_sem, Nat.reduceAdd, Nat.reduceSub, Nat.reduceMul, Nat.reduceDiv, Nat.reduceMod, Nat.reduceLT, Nat.reduceLeDiff, Nat.reduceEqDiff, Nat.reduceBEq, Nat.reduceBNe, Nat.reduceGT, Int.reduceAdd, Int.reduceSub, Int.reduceMul, Int.reduceNeg, Int.reduceLT, Int.reduceLE, Int.reduceEq, Int.reduceNe, Int.reduceBEq, Int.reduceBNe, Int.reduceToNat, Int.reduceGT, Int.reduceGE, ↓reduceIte, decide_true, decide_false, hlt]
      refine hQ1 _ _ ?_
      simp (decide := true) (maxSteps := 4000000) only [go_sem, Nat.reduceAdd, Nat.reduceSub, Nat.reduceMul, Nat.reduceDiv, Nat.reduceMod, Nat.reduceLT, Nat.reduceLeDiff, Nat.reduceEqDiff, Nat.reduceBEq, Nat.reduceBNe, Nat.reduceGT, Int.reduceAdd, Int.reduceSub, Int.reduceMul, Int.reduceNeg, Int.reduceLT, Int.reduceLE, Int.reduceEq, Int.reduceNe, Int.reduceBEq, Int.reduceBNe, Int.reduceToNat, Int.reduceGT, Int.reduceGE, ↓reduceIte, decide_true, decide_false, hbe, Of.cs, Of.zero]
theorem lCheapest_n : PCalls Try.prog 65 [.fn 66 [] [], .nilSl] (.tup [.agg ((bestOf []).getD Of.zero).cs, .bool false]) := by
  refine pcalls_by Try.mixes spH1_ok (fn := Try.f65) Try.func65 rfl (by kernel_rfl) (by show 2 ≤ _; decide) ?_
  simp (decide := true) (maxSteps := 4000000) only [go_sem, Nat.reduceAdd, Nat.reduceSub, Nat.reduceMul, Nat.reduceDiv, Nat.reduceMod, Nat.reduceLT, Nat.reduceLeDiff, Nat.reduceEqDiff, Nat.reduceBEq, Nat.reduceBNe, Nat.reduceGT, Int.reduceAdd, Int.reduceSub, Int.reduceMul, Int.reduceNeg, Int.reduceLT, Int.reduceLE, Int.reduceEq, Int.reduceNe, Int.reduceBEq, Int.reduceBNe, Int.reduceToNat, Int.reduceGT, Int.reduceGE, ↓reduceIte, decide_true, decide_false, Try.f65]
  refine pwpC_loopQ (A := Unit) (fun k => { env := [(11, .t (.int .i64 0)), (10, .t (.int .i64 0)), (1, .t .nilSl), (4, .ptr 0 0), (6, .ptr 1 0)], heap := [.box (Of.zero.cs.map .t), .box (Of.zero.cs.map .t)] }) (fun k => 0) () ?_ (fun k => by rfl) fun Q1 hQ1 k I1 hI1 => ?_
  · simp (decide := true) (maxSteps := 4000000) only [go_sem, Nat.reduceAdd, Nat.reduceSub, Nat.reduceMul, Nat.reduceDiv, Nat.reduceMod, Nat.reduceLT, Nat.reduceLeDiff, Nat.reduceEqDiff, Nat.reduceBEq, Nat.reduceBNe, Nat.reduceGT, Int.reduceAdd, Int.reduceSub, Int.reduceMul, Int.reduceNeg, Int.reduceLT, Int.reduceLE, Int.reduceEq, Int.reduceNe, Int.reduceBEq, Int.reduceBNe, Int.reduceToNat, Int.reduceGT, Int.reduceGE, ↓reduceIte, decide_true, decide_false, Of.cs, Of.zero]
  · simp (decide := true) (maxSteps := 4000000) only [go_sem, Nat.reduceAdd, Nat.reduceSub, Nat.reduceMul, Nat.reduceDiv, Nat.reduceMod, Nat.reduceLT, Nat.reduceLeDiff, Nat.reduceEqDiff, Nat.reduceBEq, Nat.reduceBNe, Nat.reduceGT, Int.reduceAdd, Int.reduceSub, Int.reduceMul, Int.reduceNeg, Int.reduceLT, Int.reduceLE, Int.reduceEq, Int.reduceNe, Int.reduceBEq, Int.reduceBNe, Int.reduceToNat, Int.reduceGT, Int.reduceGE, ↓reduceIte, decide_true, decide_false]
    refine hQ1 _ _ ?_
    simp (decide := true) (maxSteps := 4000000) only [go_sem, Nat.reduceAdd, Nat.reduceSub, Nat.reduceMul, Nat.reduceDiv, Nat.reduceMod, Nat.reduceLT, Nat.reduceLeDiff, Nat.reduceEqDiff, Nat.reduceBEq, Nat.reduceBNe, Nat.reduceGT, Int.reduceAdd, Int.reduceSub, Int.reduceMul, Int.reduceNeg, Int.reduceLT, Int.reduceLE, Int.reduceEq, Int.reduceNe, Int.reduceBEq, Int.reduceBNe, Int.reduceToNat, Int.reduceGT, Int.reduceGE, ↓reduceIte, decide_true, decide_false, Of.cs, Of.zero, bestOf]
end Go.Proofs.Ytgofljmnlfnlnaa

/- Part Li. -/
namespace Go.Proofs.Ytgofljmnlfnlnaa
open Go.RowKit Go.Pm Go.Oc
set_option maxRecDepth 100000
set_option linter.unusedVariables false
set_option maxHeartbeats 4000000

theorem lCheapest_d {l : List Of} {s : TV} (hs : IsRow Of.cs s l) (hl : l.length ≤ 1000) : PCalls Try.prog 65 [.fn 66 [] [], s] (.tup [.agg ((bestOf l).getD Of.zero).cs, .bool (decide ((l.length : Int) > 0))]) := by
  rcases hs with ⟨rfl, rfl⟩ | ⟨full, rfl⟩
  · exact lCheapest_n
  · exact lCheapest_c l full hl
noncomputable def glCheapest : List TV → Option TV
  | [.fn 66 [] [], s] => match rowL unOfs s with
    | some l => if l.length ≤ 1000 then some (.tup [.agg ((bestOf l).getD Of.zero).cs, .bool (decide ((l.length : Int) > 0))]) else none
    | none => none
  | _ => none
theorem glCheapest_ok : ∀ xs r, glCheapest xs = some r → PCalls Try.prog 65 xs r := by
  intro xs r h
  unfold glCheapest at h
  split at h
  · split at h
    · rename_i l hl
      have hl := rowL_some (un := unOfs) rfl (@unOfs_some) hl
      split at h
      · rename_i hc; cases h; exact lCheapest_d hl hc
      · cases h
    · cases h
  · cases h
attribute [go_sem] glCheapest
noncomputable def spI1 : Pm.Spec := (spD3.one 66 glPrice).one 65 glCheapest
@[go_sem] theorem spI1_p (f : FuncId) (xs : List TV) : spI1.p f xs = Pm.Spec.p ((spD3.one 66 glPrice).one 65 glCheapest) f xs := rfl
@[go_sem] theorem spI1_h (f : FuncId) (ps : List PV) (hl : List PO) : spI1.h f ps hl = Pm.Spec.h ((spD3.one 66 glPrice).one 65 glCheapest) f ps hl := rfl
@[go_sem] theorem spI1_fz (f : FuncId) : spI1.fz f = Pm.Spec.fz ((spD3.one 66 glPrice).one 65 glCheapest) f := rfl
@[go_sem] theorem spI1_fr (f : FuncId) : spI1.fr f = Pm.Spec.fr ((spD3.one 66 glPrice).one 65 glCheapest) f := rfl
@[go_sem] theorem spI1_mu (t : TypeId) : spI1.mu t = Pm.Spec.mu ((spD3.one 66 glPrice).one 65 glCheapest) t := rfl
theorem spI1_ok : SpecOk Try.prog spI1 := Spec.one_ok glCheapest_ok (Spec.one_ok glPrice_ok spD3_ok)

theorem okTo_ok {st : List Vial} {pr : List Int} {rg fl : Int} {n k : Nat} {x : Vial} (h : okTo st pr rg fl n = true) (hk : k < n) (hx : st[k]? = some x) : x.ok = true := by
  simp only [okTo, Bool.and_eq_true, List.all_eq_true, List.mem_range] at h
  have := h.2 k hk
  unfold okAt at this
  rw [hx] at this
  split at this
  · rename_i h1 _; cases h1; simp only [Bool.and_eq_true] at this; exact this.1
  · cases this
theorem best_some {l : List Of} (h : 0 < l.length) : ∃ y, bestOf l = some y := by
  have := bestTo_some (k := l.length) h (Nat.le_refl _)
  rwa [show bestTo l l.length = bestOf l by unfold bestTo; rw [List.take_length]; rfl] at this

theorem lChoose_c {st : List Vial} {pr : List Int} {s t : TV} (hs : IsRow Vial.cs s st) (ht : IsRow ic t pr) (rg fl : Int) (hl : st.length ≤ 2199023255552) : PCalls Try.prog 30 [s, t, .agg [.int .i64 rg, .int .i64 fl]] (.tup [.int .i64 (chooseP st pr rg fl).1, .int .i64 (chooseP st pr rg fl).2]) := by
  refine pcalls_by Try.mixes spI1_ok (fn := Try.f30) Try.func30 rfl (by kernel_rfl) (by show 3 ≤ _; decide) ?_
  cases hb : okBase st.length pr.length rg fl with
  | false =>
    have ho : ∀ k, okTo st pr rg fl k = false := fun k => by unfold okTo; rw [hb]; rfl
    have hr : chooseP st pr rg fl = (0, 34) := by unfold chooseP; rw [ho]; rfl
    rw [hr]
    unfold okBase at hb
    rcases hs with ⟨rfl, rfl⟩ | ⟨full, rfl⟩
    · rcases ht with ⟨rfl, rfl⟩ | ⟨full', rfl⟩
      all_goals
        simp (decide := true) (maxSteps := 4000000) only [go_sem, Nat.reduceAdd, Nat.reduceSub, Nat.reduceMul, Nat.reduceDiv, Nat.reduceMod, Nat.reduceLT, Nat.reduceLeDiff, Nat.reduceEqDiff, Nat.reduceBEq, Nat.reduceBNe, Nat.reduceGT, Int.reduceAdd, Int.reduceSub, Int.reduceMul, Int.reduceNeg, Int.reduceLT, Int.reduceLE, Int.reduceEq, Int.reduceNe, Int.reduceBEq, Int.reduceBNe, Int.reduceToNat, Int.reduceGT, Int.reduceGE, ↓reduceIte, decide_true, decide_false, Try.f30]
        refine pwpC_loopU (A := Unit) [0, 1, 5, 38] (fun _ => [(39, .t (.int .i64 0)), (8, .t (.bool false))]) (fun _ => []) (fun _ => 0) () (by decide) (fun _ => by rfl) ?_ fun Q1 hQ1 k I1 hI1 => ?_
        · simp (decide := true) (maxSteps := 4000000) only [go_sem, Nat.reduceAdd, Nat.reduceSub, Nat.reduceMul, Nat.reduceDiv, Nat.reduceMod, Nat.reduceLT, Nat.reduceLeDiff, Nat.reduceEqDiff, Nat.reduceBEq, Nat.reduceBNe, Nat.reduceGT, Int.reduceAdd, Int.reduceSub, Int.reduceMul, Int.reduceNeg, Int.reduceLT, Int.reduceLE, Int.reduceEq, Int.reduceNe, Int.reduceBEq, Int.reduceBNe, Int.reduceToNat, Int.reduceGT, Int.reduceGE, ↓reduceIte, decide_true, decide_false, inB]
        · simp (decide := true) (maxSteps := 4000000) only [go_sem, Nat.reduceAdd, Nat.reduceSub, Nat.reduceMul, Nat.reduceDiv, Nat.reduceMod, Nat.reduceLT, Nat.reduceLeDiff, Nat.reduceEqDiff, Nat.reduceBEq, Nat.reduceBNe, Nat.reduceGT, Int.reduceAdd, Int.reduceSub, Int.reduceMul, Int.reduceNeg, Int.reduceLT, Int.reduceLE, Int.reduceEq, Int.reduceNe, Int.reduceBEq, Int.reduceBNe, Int.reduceToNat, Int.reduceGT, Int.reduceGE, ↓reduceIte, decide_true, decide_false]
          refine hQ1 _ _ ?_
          simp (decide := true) (maxSteps := 4000000) only [go_sem, Nat.reduceAdd, Nat.reduceSub, Nat.reduceMul, Nat.reduceDiv, Nat.reduceMod, Nat.reduceLT, Nat.reduceLeDiff, Nat.reduceEqDiff, Nat.reduceBEq, Nat.reduceBNe, Nat.reduceGT, Int.reduceAdd, Int.reduceSub, Int.reduceMul, Int.reduceNeg, Int.reduceLT, Int.reduceLE, Int.reduceEq, Int.reduceNe, Int.reduceBEq, Int.reduceBNe, Int.reduceToNat, Int.reduceGT, Int.reduceGE, ↓reduceIte, decide_true, decide_false]
    · rcases ht with ⟨rfl, rfl⟩ | ⟨full', rfl⟩
      all_goals
        simp (decide := true) (maxSteps := 4000000) only [go_sem, Nat.reduceAdd, Nat.reduceSub, Nat.reduceMul, Nat.reduceDiv, Nat.reduceMod, Nat.reduceLT, Nat.reduceLeDiff, Nat.reduceEqDiff, Nat.reduceBEq, Nat.reduceBNe, Nat.reduceGT, Int.reduceAdd, Int.reduceSub, Int.reduceMul, Int.reduceNeg, Int.reduceLT, Int.reduceLE, Int.reduceEq, Int.reduceNe, Int.reduceBEq, Int.reduceBNe, Int.reduceToNat, Int.reduceGT, Int.reduceGE, ↓reduceIte, decide_true, decide_false, Try.f30]
        refine pwpC_loopU (A := { k : Nat // k ≤ st.length }) [0, 1, 5, 38] (fun k => [(39, .t (.int .i64 k.1)), (8, .t (.bool false))]) (fun _ => []) (fun k => st.length - k.1) ⟨0, by omega⟩ (by decide) (fun _ => by rfl) ?_ fun Q1 hQ1 ⟨k, hk⟩ I1 hI1 => ?_
        · simp (decide := true) (maxSteps := 4000000) only [go_sem, Nat.reduceAdd, Nat.reduceSub, Nat.reduceMul, Nat.reduceDiv, Nat.reduceMod, Nat.reduceLT, Nat.reduceLeDiff, Nat.reduceEqDiff, Nat.reduceBEq, Nat.reduceBNe, Nat.reduceGT, Int.reduceAdd, Int.reduceSub, Int.reduceMul, Int.reduceNeg, Int.reduceLT, Int.reduceLE, Int.reduceEq, Int.reduceNe, Int.reduceBEq, Int.reduceBNe, Int.reduceToNat, Int.reduceGT, Int.reduceGE, ↓reduceIte, decide_true, decide_false]
          simpa using hb
        · by_cases hlt : (k : Int) < st.length
          · obtain ⟨x, hx⟩ := get_lt hlt
            have hd := flat_at Vial.cs (n := 8) (fun _ => rfl) hx
            have hc1 : IntKind.i64.wrap (k + 1) = ((k + 1 : Nat) : Int) := by rw [wrap_in (by omega) (by omega)]; omega
            first
            | simp (decide := true) (maxSteps := 4000000) only [go_sem, Nat.reduceAdd, Nat.reduceSub, Nat.reduceMul, Nat.reduceDiv, Nat.reduceMod, Nat.reduceLT, Nat.reduceLeDiff, Nat.reduceEqDiff, Nat.reduceBEq, Nat.reduceBNe, Nat.reduceGT, Int.reduceAdd, Int.reduceSub, Int.reduceMul, Int.reduceNeg, Int.reduceLT, Int.reduceLE, Int.reduceEq, Int.reduceNe, Int.reduceBEq, Int.reduceBNe, Int.reduceToNat, Int.reduceGT, Int.reduceGE, ↓reduceIte, decide_true, decide_false, hlt, hd, Vial.cs]
              refine hI1 _ ⟨k + 1, by omega⟩ (by simp only; omega) ?_
              simp (decide := true) (maxSteps := 4000000) only [go_sem, Nat.reduceAdd, Nat.reduceSub, Nat.reduceMul, Nat.reduceDiv, Nat.reduceMod, Nat.reduceLT, Nat.reduceLeDiff, Nat.reduceEqDiff, Nat.reduceBEq, Nat.reduceBNe, Nat.reduceGT, Int.reduceAdd, Int.reduceSub, Int.reduceMul, Int.reduceNeg, Int.reduceLT, Int.reduceLE, Int.reduceEq, Int.reduceNe, Int.reduceBEq, Int.reduceBNe, Int.reduceToNat, Int.reduceGT, Int.reduceGE, ↓reduceIte, decide_true, decide_false, hc1]
            | by_cases hlp : (k : Int) < pr.length
              · obtain ⟨y, hy⟩ := get_lt hlp
                have hdy := flat_at ic (n := 1) (fun _ => rfl) hy
                rw [Nat.mul_one] at hdy
                simp (decide := true) (maxSteps := 4000000) only [go_sem, Nat.reduceAdd, Nat.reduceSub, Nat.reduceMul, Nat.reduceDiv, Nat.reduceMod, Nat.reduceLT, Nat.reduceLeDiff, Nat.reduceEqDiff, Nat.reduceBEq, Nat.reduceBNe, Nat.reduceGT, Int.reduceAdd, Int.reduceSub, Int.reduceMul, Int.reduceNeg, Int.reduceLT, Int.reduceLE, Int.reduceEq, Int.reduceNe, Int.reduceBEq, Int.reduceBNe, Int.reduceToNat, Int.reduceGT, Int.reduceGE, ↓reduceIte, decide_true, decide_false, eq_self, Nat.mul_one, Nat.zero_mul, Nat.one_mul, Int.le_refl, Nat.le_refl, Int.cast_ofNat_Int, hlt, hd, Vial.cs, hdy, hlp, ic]
                refine hI1 _ ⟨k + 1, by omega⟩ (by simp only; omega) ?_
                simp (decide := true) (maxSteps := 4000000) only [go_sem, Nat.reduceAdd, Nat.reduceSub, Nat.reduceMul, Nat.reduceDiv, Nat.reduceMod, Nat.reduceLT, Nat.reduceLeDiff, Nat.reduceEqDiff, Nat.reduceBEq, Nat.reduceBNe, Nat.reduceGT, Int.reduceAdd, Int.reduceSub, Int.reduceMul, Int.reduceNeg, Int.reduceLT, Int.reduceLE, Int.reduceEq, Int.reduceNe, Int.reduceBEq, Int.reduceBNe, Int.reduceToNat, Int.reduceGT, Int.reduceGE, ↓reduceIte, decide_true, decide_false, hc1]
              · simp (decide := true) (maxSteps := 4000000) only [go_sem, Nat.reduceAdd, Nat.reduceSub, Nat.reduceMul, Nat.reduceDiv, Nat.reduceMod, Nat.reduceLT, Nat.reduceLeDiff, Nat.reduceEqDiff, Nat.reduceBEq, Nat.reduceBNe, Nat.reduceGT, Int.reduceAdd, Int.reduceSub, Int.reduceMul, Int.reduceNeg, Int.reduceLT, Int.reduceLE, Int.reduceEq, Int.reduceNe, Int.reduceBEq, Int.reduceBNe, Int.reduceToNat, Int.reduceGT, Int.reduceGE, ↓reduceIte, decide_true, decide_false, eq_self, Nat.mul_one, Nat.zero_mul, Nat.one_mul, Int.le_refl, Nat.le_refl, Int.cast_ofNat_Int, hlt, hd, Vial.cs, hlp]
                refine hI1 _ ⟨k + 1, by omega⟩ (by simp only; omega) ?_
                simp (decide := true) (maxSteps := 4000000) only [go_sem, Nat.reduceAdd, Nat.reduceSub, Nat.reduceMul, Nat.reduceDiv, Nat.reduceMod, Nat.reduceLT, Nat.reduceLeDiff, Nat.reduceEqDiff, Nat.reduceBEq, Nat.reduceBNe, Nat.reduceGT, Int.reduceAdd, Int.reduceSub, Int.reduceMul, Int.reduceNeg, Int.reduceLT, Int.reduceLE, Int.reduceEq, Int.reduceNe, Int.reduceBEq, Int.reduceBNe, Int.reduceToNat, Int.reduceGT, Int.reduceGE, ↓reduceIte, decide_true, decide_false, hc1]
          · simp (decide := true) (maxSteps := 4000000) only [go_sem, Nat.reduceAdd, Nat.reduceSub, Nat.reduceMul, Nat.reduceDiv, Nat.reduceMod, Nat.reduceLT, Nat.reduceLeDiff, Nat.reduceEqDiff, Nat.reduceBEq, Nat.reduceBNe, Nat.reduceGT, Int.reduceAdd, Int.reduceSub, Int.reduceMul, Int.reduceNeg, Int.reduceLT, Int.reduceLE, Int.reduceEq, Int.reduceNe, Int.reduceBEq, Int.reduceBNe, Int.reduceToNat, Int.reduceGT, Int.reduceGE, ↓reduceIte, decide_true, decide_false, hlt]
            refine hQ1 _ _ ?_
            simp (decide := true) (maxSteps := 4000000) only [go_sem, Nat.reduceAdd, Nat.reduceSub, Nat.reduceMul, Nat.reduceDiv, Nat.reduceMod, Nat.reduceLT, Nat.reduceLeDiff, Nat.reduceEqDiff, Nat.reduceBEq, Nat.reduceBNe, Nat.reduceGT, Int.reduceAdd, Int.reduceSub, Int.reduceMul, Int.reduceNeg, Int.reduceLT, Int.reduceLE, Int.reduceEq, Int.reduceNe, Int.reduceBEq, Int.reduceBNe, Int.reduceToNat, Int.reduceGT, Int.reduceGE, ↓reduceIte, decide_true, decide_false]
  | true =>
    have h10 : 1 ≤ st.length ∧ st.length ≤ 10 ∧ pr.length = st.length := by
      simp only [okBase, inB, Bool.and_eq_true, decide_eq_true_eq, beq_iff_eq] at hb; omega
    obtain ⟨full, rfl⟩ := hs.ne h10.1
    obtain ⟨full', rfl⟩ := ht.ne (by omega)
    have hb' := hb
    unfold okBase at hb'
    rw [h10.2.2] at hb' ⊢
    simp (decide := true) (maxSteps := 4000000) only [go_sem, Nat.reduceAdd, Nat.reduceSub, Nat.reduceMul, Nat.reduceDiv, Nat.reduceMod, Nat.reduceLT, Nat.reduceLeDiff, Nat.reduceEqDiff, Nat.reduceBEq, Nat.reduceBNe, Nat.reduceGT, Int.reduceAdd, Int.reduceSub, Int.reduceMul, Int.reduceNeg, Int.reduceLT, Int.reduceLE, Int.reduceEq, Int.reduceNe, Int.reduceBEq, Int.reduceBNe, Int.reduceToNat, Int.reduceGT, Int.reduceGE, ↓reduceIte, decide_true, decide_false, Try.f30]
    refine pwpC_loopU (A := { k : Nat // k ≤ st.length }) [0, 1, 5, 38] (fun k => [(39, .t (.int .i64 k.1)), (8, .t (.bool (okTo st pr rg fl k.1)))]) (fun _ => []) (fun k => st.length - k.1) ⟨0, by omega⟩ (by decide) (fun _ => by rfl) ?_ fun Q1 hQ1 ⟨k, hk⟩ I1 hI1 => ?_
    · simp (decide := true) (maxSteps := 4000000) only [go_sem, Nat.reduceAdd, Nat.reduceSub, Nat.reduceMul, Nat.reduceDiv, Nat.reduceMod, Nat.reduceLT, Nat.reduceLeDiff, Nat.reduceEqDiff, Nat.reduceBEq, Nat.reduceBNe, Nat.reduceGT, Int.reduceAdd, Int.reduceSub, Int.reduceMul, Int.reduceNeg, Int.reduceLT, Int.reduceLE, Int.reduceEq, Int.reduceNe, Int.reduceBEq, Int.reduceBNe, Int.reduceToNat, Int.reduceGT, Int.reduceGE, ↓reduceIte, decide_true, decide_false]
      unfold okTo okBase
      rw [h10.2.2]; simp
    · by_cases hlt : (k : Int) < st.length
      · obtain ⟨x, hx⟩ := get_lt hlt
        obtain ⟨y, hy⟩ := get_lt (l := pr) (k := k) (by omega)
        have hd := flat_at Vial.cs (n := 8) (fun _ => rfl) hx
        have hdy := flat_at ic (n := 1) (fun _ => rfl) hy
        rw [Nat.mul_one] at hdy
        have hc1 : IntKind.i64.wrap (k + 1) = ((k + 1 : Nat) : Int) := by rw [wrap_in (by omega) (by omega)]; omega
        have hs := okTo_succ st pr rg fl k
        unfold okAt at hs
        rw [hx, hy] at hs
        cases hok : okTo st pr rg fl k with
        | false =>
          simp (decide := true) (maxSteps := 4000000) only [go_sem, Nat.reduceAdd, Nat.reduceSub, Nat.reduceMul, Nat.reduceDiv, Nat.reduceMod, Nat.reduceLT, Nat.reduceLeDiff, Nat.reduceEqDiff, Nat.reduceBEq, Nat.reduceBNe, Nat.reduceGT, Int.reduceAdd, Int.reduceSub, Int.reduceMul, Int.reduceNeg, Int.reduceLT, Int.reduceLE, Int.reduceEq, Int.reduceNe, Int.reduceBEq, Int.reduceBNe, Int.reduceToNat, Int.reduceGT, Int.reduceGE, ↓reduceIte, decide_true, decide_false, eq_self, Nat.mul_one, Nat.zero_mul, Nat.one_mul, Int.le_refl, Nat.le_refl, Int.cast_ofNat_Int, hlt, hd, hdy, Vial.cs, ic, hok]
          refine hI1 _ ⟨k + 1, by omega⟩ (by simp only; omega) ?_
          simp (decide := true) (maxSteps := 4000000) only [go_sem, Nat.reduceAdd, Nat.reduceSub, Nat.reduceMul, Nat.reduceDiv, Nat.reduceMod, Nat.reduceLT, Nat.reduceLeDiff, Nat.reduceEqDiff, Nat.reduceBEq, Nat.reduceBNe, Nat.reduceGT, Int.reduceAdd, Int.reduceSub, Int.reduceMul, Int.reduceNeg, Int.reduceLT, Int.reduceLE, Int.reduceEq, Int.reduceNe, Int.reduceBEq, Int.reduceBNe, Int.reduceToNat, Int.reduceGT, Int.reduceGE, ↓reduceIte, decide_true, decide_false, hc1, hs, hok, Bool.false_and]
        | true =>
          cases hv : x.ok with
          | false =>
            simp (decide := true) (maxSteps := 4000000) only [go_sem, Nat.reduceAdd, Nat.reduceSub, Nat.reduceMul, Nat.reduceDiv, Nat.reduceMod, Nat.reduceLT, Nat.reduceLeDiff, Nat.reduceEqDiff, Nat.reduceBEq, Nat.reduceBNe, Nat.reduceGT, Int.reduceAdd, Int.reduceSub, Int.reduceMul, Int.reduceNeg, Int.reduceLT, Int.reduceLE, Int.reduceEq, Int.reduceNe, Int.reduceBEq, Int.reduceBNe, Int.reduceToNat, Int.reduceGT, Int.reduceGE, ↓reduceIte, decide_true, decide_false, eq_self, Nat.mul_one, Nat.zero_mul, Nat.one_mul, Int.le_refl, Nat.le_refl, Int.cast_ofNat_Int, hlt, hd, hdy, Vial.cs, ic, hok, hv]
            refine hI1 _ ⟨k + 1, by omega⟩ (by simp only; omega) ?_
            simp (decide := true) (maxSteps := 4000000) only [go_sem, Nat.reduceAdd, Nat.reduceSub, Nat.reduceMul, Nat.reduceDiv, Nat.reduceMod, Nat.reduceLT, Nat.reduceLeDiff, Nat.reduceEqDiff, Nat.reduceBEq, Nat.reduceBNe, Nat.reduceGT, Int.reduceAdd, Int.reduceSub, Int.reduceMul, Int.reduceNeg, Int.reduceLT, Int.reduceLE, Int.reduceEq, Int.reduceNe, Int.reduceBEq, Int.reduceBNe, Int.reduceToNat, Int.reduceGT, Int.reduceGE, ↓reduceIte, decide_true, decide_false, hc1, hs, hok, hv, Bool.false_and, Bool.true_and]
          | true =>
            simp (decide := true) (maxSteps := 4000000) only [go_sem, Nat.reduceAdd, Nat.reduceSub, Nat.reduceMul, Nat.reduceDiv, Nat.reduceMod, Nat.reduceLT, Nat.reduceLeDiff, Nat.reduceEqDiff, Nat.reduceBEq, Nat.reduceBNe, Nat.reduceGT, Int.reduceAdd, Int.reduceSub, Int.reduceMul, Int.reduceNeg, Int.reduceLT, Int.reduceLE, Int.reduceEq, Int.reduceNe, Int.reduceBEq, Int.reduceBNe, Int.reduceToNat, Int.reduceGT, Int.reduceGE, ↓reduceIte, decide_true, decide_false, eq_self, Nat.mul_one, Nat.zero_mul, Nat.one_mul, Int.le_refl, Nat.le_refl, Int.cast_ofNat_Int, hlt, hd, hdy, Vial.cs, ic, hok, hv]
            refine hI1 _ ⟨k + 1, by omega⟩ (by simp only; omega) ?_
            simp (decide := true) (maxSteps := 4000000) only [go_sem, Nat.reduceAdd, Nat.reduceSub, Nat.reduceMul, Nat.reduceDiv, Nat.reduceMod, Nat.reduceLT, Nat.reduceLeDiff, Nat.reduceEqDiff, Nat.reduceBEq, Nat.reduceBNe, Nat.reduceGT, Int.reduceAdd, Int.reduceSub, Int.reduceMul, Int.reduceNeg, Int.reduceLT, Int.reduceLE, Int.reduceEq, Int.reduceNe, Int.reduceBEq, Int.reduceBNe, Int.reduceToNat, Int.reduceGT, Int.reduceGE, ↓reduceIte, decide_true, decide_false, hc1, hs, hok, hv, Bool.true_and]
      · have hkl : k = st.length := by omega
        subst hkl
        cases hok : okTo st pr rg fl st.length with
        | false =>
          have hr : chooseP st pr rg fl = (0, 34) := by unfold chooseP; rw [hok]; rfl
          simp (decide := true) (maxSteps := 4000000) only [go_sem, Nat.reduceAdd, Nat.reduceSub, Nat.reduceMul, Nat.reduceDiv, Nat.reduceMod, Nat.reduceLT, Nat.reduceLeDiff, Nat.reduceEqDiff, Nat.reduceBEq, Nat.reduceBNe, Nat.reduceGT, Int.reduceAdd, Int.reduceSub, Int.reduceMul, Int.reduceNeg, Int.reduceLT, Int.reduceLE, Int.reduceEq, Int.reduceNe, Int.reduceBEq, Int.reduceBNe, Int.reduceToNat, Int.reduceGT, Int.reduceGE, ↓reduceIte, decide_true, decide_false, hlt, hok]
          refine hQ1 _ _ ?_
          simp (decide := true) (maxSteps := 4000000) only [go_sem, Nat.reduceAdd, Nat.reduceSub, Nat.reduceMul, Nat.reduceDiv, Nat.reduceMod, Nat.reduceLT, Nat.reduceLeDiff, Nat.reduceEqDiff, Nat.reduceBEq, Nat.reduceBNe, Nat.reduceGT, Int.reduceAdd, Int.reduceSub, Int.reduceMul, Int.reduceNeg, Int.reduceLT, Int.reduceLE, Int.reduceEq, Int.reduceNe, Int.reduceBEq, Int.reduceBNe, Int.reduceToNat, Int.reduceGT, Int.reduceGE, ↓reduceIte, decide_true, decide_false, hr]
        | true =>
          simp (decide := true) (maxSteps := 4000000) only [go_sem, Nat.reduceAdd, Nat.reduceSub, Nat.reduceMul, Nat.reduceDiv, Nat.reduceMod, Nat.reduceLT, Nat.reduceLeDiff, Nat.reduceEqDiff, Nat.reduceBEq, Nat.reduceBNe, Nat.reduceGT, Int.reduceAdd, Int.reduceSub, Int.reduceMul, Int.reduceNeg, Int.reduceLT, Int.reduceLE, Int.reduceEq, Int.reduceNe, Int.reduceBEq, Int.reduceBNe, Int.reduceToNat, Int.reduceGT, Int.reduceGE, ↓reduceIte, decide_true, decide_false, hlt, hok]
          refine hQ1 _ _ ?_
          simp (decide := true) (maxSteps := 4000000) only [go_sem, Nat.reduceAdd, Nat.reduceSub, Nat.reduceMul, Nat.reduceDiv, Nat.reduceMod, Nat.reduceLT, Nat.reduceLeDiff, Nat.reduceEqDiff, Nat.reduceBEq, Nat.reduceBNe, Nat.reduceGT, Int.reduceAdd, Int.reduceSub, Int.reduceMul, Int.reduceNeg, Int.reduceLT, Int.reduceLE, Int.reduceEq, Int.reduceNe, Int.reduceBEq, Int.reduceBNe, Int.reduceToNat, Int.reduceGT, Int.reduceGE, ↓reduceIte, decide_true, decide_false]
          refine pwpC_loopU (A := { k : Nat // k ≤ st.length }) [1, 5, 10, 61, 62] (fun k => [(63, .t (.int .i64 k.1)), (11, .own ((offTo st pr rg fl k.1).flatMap Of.cs) (offTo st pr rg fl k.1).length 1)]) (fun k => [(1, .tok (offTo st pr rg fl k.1).length 107)]) (fun k => st.length - k.1) ⟨0, by omega⟩ (by decide) (fun _ => by rfl) ?_ fun Q2 hQ2 ⟨k, hk⟩ I2 hI2 => ?_
          · simp (decide := true) (maxSteps := 4000000) only [go_sem, Nat.reduceAdd, Nat.reduceSub, Nat.reduceMul, Nat.reduceDiv, Nat.reduceMod, Nat.reduceLT, Nat.reduceLeDiff, Nat.reduceEqDiff, Nat.reduceBEq, Nat.reduceBNe, Nat.reduceGT, Int.reduceAdd, Int.reduceSub, Int.reduceMul, Int.reduceNeg, Int.reduceLT, Int.reduceLE, Int.reduceEq, Int.reduceNe, Int.reduceBEq, Int.reduceBNe, Int.reduceToNat, Int.reduceGT, Int.reduceGE, ↓reduceIte, decide_true, decide_false]
            exact ⟨⟨rfl, rfl⟩, rfl⟩
          · have hle := offTo_le st pr rg fl k
            by_cases hlt : (k : Int) < st.length
            · obtain ⟨x, hx⟩ := get_lt hlt
              obtain ⟨y, hy⟩ := get_lt (l := pr) (k := k) (by omega)
              have hd := flat_at Vial.cs (n := 8) (fun _ => rfl) hx
              have hdy := flat_at ic (n := 1) (fun _ => rfl) hy
              rw [Nat.mul_one] at hdy
              have hv := okTo_ok hok (by omega) hx
              have hc1 : IntKind.i64.wrap (k + 1) = ((k + 1 : Nat) : Int) := by rw [wrap_in (by omega) (by omega)]; omega
              have hc : (List.flatMap Of.cs (offTo st pr rg fl k)).length = (offTo st pr rg fl k).length * 10 := flat_len Of.cs (n := 10) (fun _ => rfl) _
              have hr : ((offTo st pr rg fl k).length + 1) * 80 ≤ 140737488355328 := by omega
              cases hdo : doesP x rg fl with
              | false =>
                have ho : offTo st pr rg fl (k + 1) = offTo st pr rg fl k := offTo_f (by unfold offAt; rw [hx, hy]; simp [hdo])
                simp (decide := true) (maxSteps := 4000000) only [go_sem, Nat.reduceAdd, Nat.reduceSub, Nat.reduceMul, Nat.reduceDiv, Nat.reduceMod, Nat.reduceLT, Nat.reduceLeDiff, Nat.reduceEqDiff, Nat.reduceBEq, Nat.reduceBNe, Nat.reduceGT, Int.reduceAdd, Int.reduceSub, Int.reduceMul, Int.reduceNeg, Int.reduceLT, Int.reduceLE, Int.reduceEq, Int.reduceNe, Int.reduceBEq, Int.reduceBNe, Int.reduceToNat, Int.reduceGT, Int.reduceGE, ↓reduceIte, decide_true, decide_false, eq_self, Nat.mul_one, Nat.zero_mul, Nat.one_mul, Int.le_refl, Nat.le_refl, Int.cast_ofNat_Int, hlt, hd, hdy, Vial.cs, ic, hv, hdo, hc, hr]
                refine hI2 _ ⟨k + 1, by omega⟩ (by simp only; omega) ?_
                simp (decide := true) (maxSteps := 4000000) only [go_sem, Nat.reduceAdd, Nat.reduceSub, Nat.reduceMul, Nat.reduceDiv, Nat.reduceMod, Nat.reduceLT, Nat.reduceLeDiff, Nat.reduceEqDiff, Nat.reduceBEq, Nat.reduceBNe, Nat.reduceGT, Int.reduceAdd, Int.reduceSub, Int.reduceMul, Int.reduceNeg, Int.reduceLT, Int.reduceLE, Int.reduceEq, Int.reduceNe, Int.reduceBEq, Int.reduceBNe, Int.reduceToNat, Int.reduceGT, Int.reduceGE, ↓reduceIte, decide_true, decide_false, eq_self, Nat.mul_one, Nat.zero_mul, Nat.one_mul, Int.le_refl, Nat.le_refl, Int.cast_ofNat_Int, hc1, ho]
              | true =>
                have ho : offTo st pr rg fl (k + 1) = offTo st pr rg fl k ++ [⟨x, k, y⟩] := offTo_t (by unfold offAt; rw [hx, hy]; simp [hdo])
                simp (decide := true) (maxSteps := 4000000) only [go_sem, Nat.reduceAdd, Nat.reduceSub, Nat.reduceMul, Nat.reduceDiv, Nat.reduceMod, Nat.reduceLT, Nat.reduceLeDiff, Nat.reduceEqDiff, Nat.reduceBEq, Nat.reduceBNe, Nat.reduceGT, Int.reduceAdd, Int.reduceSub, Int.reduceMul, Int.reduceNeg, Int.reduceLT, Int.reduceLE, Int.reduceEq, Int.reduceNe, Int.reduceBEq, Int.reduceBNe, Int.reduceToNat, Int.reduceGT, Int.reduceGE, ↓reduceIte, decide_true, decide_false, eq_self, Nat.mul_one, Nat.zero_mul, Nat.one_mul, Int.le_refl, Nat.le_refl, Int.cast_ofNat_Int, hlt, hd, hdy, Vial.cs, ic, hv, hdo, hc, hr]
                refine hI2 _ ⟨k + 1, by omega⟩ (by simp only; omega) ?_
                simp (decide := true) (maxSteps := 4000000) only [go_sem, Nat.reduceAdd, Nat.reduceSub, Nat.reduceMul, Nat.reduceDiv, Nat.reduceMod, Nat.reduceLT, Nat.reduceLeDiff, Nat.reduceEqDiff, Nat.reduceBEq, Nat.reduceBNe, Nat.reduceGT, Int.reduceAdd, Int.reduceSub, Int.reduceMul, Int.reduceNeg, Int.reduceLT, Int.reduceLE, Int.reduceEq, Int.reduceNe, Int.reduceBEq, Int.reduceBNe, Int.reduceToNat, Int.reduceGT, Int.reduceGE, ↓reduceIte, decide_true, decide_false, eq_self, Nat.mul_one, Nat.zero_mul, Nat.one_mul, Int.le_refl, Nat.le_refl, Int.cast_ofNat_Int, hc1, ho, List.flatMap_append, List.flatMap_cons, List.flatMap_nil, List.length_append, List.length_cons, List.length_nil, Of.cs]
            · have hkl : k = st.length := by omega
              subst hkl
              have hle' : (offTo st pr rg fl st.length).length ≤ 1000 := by omega
              simp (decide := true) (maxSteps := 4000000) only [go_sem, Nat.reduceAdd, Nat.reduceSub, Nat.reduceMul, Nat.reduceDiv, Nat.reduceMod, Nat.reduceLT, Nat.reduceLeDiff, Nat.reduceEqDiff, Nat.reduceBEq, Nat.reduceBNe, Nat.reduceGT, Int.reduceAdd, Int.reduceSub, Int.reduceMul, Int.reduceNeg, Int.reduceLT, Int.reduceLE, Int.reduceEq, Int.reduceNe, Int.reduceBEq, Int.reduceBNe, Int.reduceToNat, Int.reduceGT, Int.reduceGE, ↓reduceIte, decide_true, decide_false, eq_self, Nat.mul_one, Nat.zero_mul, Nat.one_mul, Int.le_refl, Nat.le_refl, Int.cast_ofNat_Int, hlt]
              refine hQ2 _ _ ?_
              rcases Nat.eq_zero_or_pos (offTo st pr rg fl st.length).length with h0 | h0
              · have h00 : offTo st pr rg fl st.length = [] := List.length_eq_zero_iff.1 h0
                have hr : chooseP st pr rg fl = (0, 4) := by unfold chooseP; rw [hok, h00]; rfl
                have hun : unOfs [] = some [] := rfl
                have hbn : bestOf [] = none := rfl
                simp (decide := true) (maxSteps := 4000000) only [go_sem, Nat.reduceAdd, Nat.reduceSub, Nat.reduceMul, Nat.reduceDiv, Nat.reduceMod, Nat.reduceLT, Nat.reduceLeDiff, Nat.reduceEqDiff, Nat.reduceBEq, Nat.reduceBNe, Nat.reduceGT, Int.reduceAdd, Int.reduceSub, Int.reduceMul, Int.reduceNeg, Int.reduceLT, Int.reduceLE, Int.reduceEq, Int.reduceNe, Int.reduceBEq, Int.reduceBNe, Int.reduceToNat, Int.reduceGT, Int.reduceGE, ↓reduceIte, decide_true, decide_false, eq_self, Nat.mul_one, Nat.zero_mul, Nat.one_mul, Int.le_refl, Nat.le_refl, Int.cast_ofNat_Int, h00, hr, hun, hbn, Of.cs, Of.zero, Option.getD_none, List.length_nil]
              · obtain ⟨y, hy⟩ := best_some h0
                have hr : chooseP st pr rg fl = (y.i, 0) := by unfold chooseP; rw [hok, hy]; rfl
                have h01 : ((offTo st pr rg fl st.length).length : Int) > 0 := by omega
                have h02 : ¬ (offTo st pr rg fl st.length).length = 0 := by omega
                simp (decide := true) (maxSteps := 4000000) only [go_sem, Nat.reduceAdd, Nat.reduceSub, Nat.reduceMul, Nat.reduceDiv, Nat.reduceMod, Nat.reduceLT, Nat.reduceLeDiff, Nat.reduceEqDiff, Nat.reduceBEq, Nat.reduceBNe, Nat.reduceGT, Int.reduceAdd, Int.reduceSub, Int.reduceMul, Int.reduceNeg, Int.reduceLT, Int.reduceLE, Int.reduceEq, Int.reduceNe, Int.reduceBEq, Int.reduceBNe, Int.reduceToNat, Int.reduceGT, Int.reduceGE, ↓reduceIte, decide_true, decide_false, eq_self, Nat.mul_one, Nat.zero_mul, Nat.one_mul, Int.le_refl, Nat.le_refl, Int.cast_ofNat_Int, hr, Of.cs, Of.zero, hy, h01, h02, hle']
end Go.Proofs.Ytgofljmnlfnlnaa

/- Part Lj. -/
namespace Go.Oc
open Go Go.Pm
def unI : List TV → Option (List Int)
  | [] => some []
  | .int .i64 a :: r => (unI r).map (a :: ·)
  | _ => none
theorem unI_eq : ∀ l : List Int, unI (ints l) = some l
  | [] => rfl
  | x :: l => by have := unI_eq l; unfold ints at this ⊢; simp [unI, this]
theorem unI_some : ∀ {cs : List TV} {l : List Int}, unI cs = some l → cs = l.flatMap ic := by
  intro cs
  induction cs using unI.induct with
  | case1 => intro l h; simp [unI] at h; subst h; rfl
  | case2 a r ih =>
    intro l h
    simp only [unI, Option.map_eq_some_iff] at h
    obtain ⟨l', h1, rfl⟩ := h
    rw [ih h1]; rfl
  | case3 r h1 h2 =>
    intro l h
    unfold unI at h
    split at h
    · exact absurd rfl h1
    · exact absurd rfl (h2 _ _)
    · cases h
attribute [go_sem] unI_eq
def exV : Vial := ⟨40, 16, 20, 50, 52, 38, 42, 1⟩
def exO : Vial := ⟨60, 20, 24, 20, 20, 58, 62, 1⟩
def exR : List Rd := [⟨14, 32, false⟩, ⟨9, 27, true⟩, ⟨5, 23, true⟩]
end Go.Oc
namespace Go.Proofs.Ytgofljmnlfnlnaa
open Go.RowKit Go.Pm Go.Oc
set_option maxRecDepth 100000
set_option linter.unusedVariables false
set_option maxHeartbeats 4000000

theorem Same_d {a b : List Int} {s t : TV} (hs : IsRow ic s a) (ht : IsRow ic t b) (ha : a.length ≤ 9223372036854775806) : PCalls Try.prog 25 [s, t] (.bool (decide (a = b))) := by
  rcases hs with ⟨rfl, rfl⟩ | ⟨fa, rfl⟩ <;> rcases ht with ⟨rfl, rfl⟩ | ⟨fb, rfl⟩
  · refine pcalls_by Try.mixes noSpec_ok (fn := Try.f25) Try.func25 rfl (by kernel_rfl) (by show 2 ≤ _; decide) ?_
    simp (decide := true) (maxSteps := 4000000) only [go_sem, Nat.reduceAdd, Nat.reduceSub, Nat.reduceMul, Nat.reduceDiv, Nat.reduceMod, Nat.reduceLT, Nat.reduceLeDiff, Nat.reduceEqDiff, Nat.reduceBEq, Nat.reduceBNe, Nat.reduceGT, Int.reduceAdd, Int.reduceSub, Int.reduceMul, Int.reduceNeg, Int.reduceLT, Int.reduceLE, Int.reduceEq, Int.reduceNe, Int.reduceBEq, Int.reduceBNe, Int.reduceToNat, Int.reduceGT, Int.reduceGE, ↓reduceIte, decide_true, decide_false, Try.f25]
    refine pwpC_loopU (A := Unit) [0, 1] (fun _ => [(5, .t (.int .i64 0))]) (fun _ => []) (fun _ => 0) () (by decide) (fun _ => by rfl) ?_ fun Q1 hQ1 k I1 hI1 => ?_
    · simp (decide := true) (maxSteps := 4000000) only [go_sem, Nat.reduceAdd, Nat.reduceSub, Nat.reduceMul, Nat.reduceDiv, Nat.reduceMod, Nat.reduceLT, Nat.reduceLeDiff, Nat.reduceEqDiff, Nat.reduceBEq, Nat.reduceBNe, Nat.reduceGT, Int.reduceAdd, Int.reduceSub, Int.reduceMul, Int.reduceNeg, Int.reduceLT, Int.reduceLE, Int.reduceEq, Int.reduceNe, Int.reduceBEq, Int.reduceBNe, Int.reduceToNat, Int.reduceGT, Int.reduceGE, ↓reduceIte, decide_true, decide_false]
    · simp (decide := true) (maxSteps := 4000000) only [go_sem, Nat.reduceAdd, Nat.reduceSub, Nat.reduceMul, Nat.reduceDiv, Nat.reduceMod, Nat.reduceLT, Nat.reduceLeDiff, Nat.reduceEqDiff, Nat.reduceBEq, Nat.reduceBNe, Nat.reduceGT, Int.reduceAdd, Int.reduceSub, Int.reduceMul, Int.reduceNeg, Int.reduceLT, Int.reduceLE, Int.reduceEq, Int.reduceNe, Int.reduceBEq, Int.reduceBNe, Int.reduceToNat, Int.reduceGT, Int.reduceGE, ↓reduceIte, decide_true, decide_false]
      first | done | (refine hQ1 _ _ ?_; simp (decide := true) (maxSteps := 4000000) only [go_sem, Nat.reduceAdd, Nat.reduceSub, Nat.reduceMul, Nat.reduceDiv, Nat.reduceMod, Nat.reduceLT, Nat.reduceLeDiff, Nat.reduceEqDiff, Nat.reduceBEq, Nat.reduceBNe, Nat.reduceGT, Int.reduceAdd, Int.reduceSub, Int.reduceMul, Int.reduceNeg, Int.reduceLT, Int.reduceLE, Int.reduceEq, Int.reduceNe, Int.reduceBEq, Int.reduceBNe, Int.reduceToNat, Int.reduceGT, Int.reduceGE, ↓reduceIte, decide_true, decide_false])
  · by_cases hb : b = []
    · subst hb
      refine pcalls_by Try.mixes noSpec_ok (fn := Try.f25) Try.func25 rfl (by kernel_rfl) (by show 2 ≤ _; decide) ?_
      simp (decide := true) (maxSteps := 4000000) only [go_sem, Nat.reduceAdd, Nat.reduceSub, Nat.reduceMul, Nat.reduceDiv, Nat.reduceMod, Nat.reduceLT, Nat.reduceLeDiff, Nat.reduceEqDiff, Nat.reduceBEq, Nat.reduceBNe, Nat.reduceGT, Int.reduceAdd, Int.reduceSub, Int.reduceMul, Int.reduceNeg, Int.reduceLT, Int.reduceLE, Int.reduceEq, Int.reduceNe, Int.reduceBEq, Int.reduceBNe, Int.reduceToNat, Int.reduceGT, Int.reduceGE, ↓reduceIte, decide_true, decide_false, eq_self, Nat.mul_one, Nat.zero_mul, Nat.one_mul, Int.le_refl, Nat.le_refl, Int.cast_ofNat_Int, Try.f25, List.length_nil, Int.cast_ofNat_Int, bne_self_eq_false]
      refine pwpC_loopU (A := Unit) [0, 1] (fun _ => [(5, .t (.int .i64 0))]) (fun _ => []) (fun _ => 0) () (by decide) (fun _ => by rfl) ?_ fun Q1 hQ1 k I1 hI1 => ?_
      · simp (decide := true) (maxSteps := 4000000) only [go_sem, Nat.reduceAdd, Nat.reduceSub, Nat.reduceMul, Nat.reduceDiv, Nat.reduceMod, Nat.reduceLT, Nat.reduceLeDiff, Nat.reduceEqDiff, Nat.reduceBEq, Nat.reduceBNe, Nat.reduceGT, Int.reduceAdd, Int.reduceSub, Int.reduceMul, Int.reduceNeg, Int.reduceLT, Int.reduceLE, Int.reduceEq, Int.reduceNe, Int.reduceBEq, Int.reduceBNe, Int.reduceToNat, Int.reduceGT, Int.reduceGE, ↓reduceIte, decide_true, decide_false]
      · simp (decide := true) (maxSteps := 4000000) only [go_sem, Nat.reduceAdd, Nat.reduceSub, Nat.reduceMul, Nat.reduceDiv, Nat.reduceMod, Nat.reduceLT, Nat.reduceLeDiff, Nat.reduceEqDiff, Nat.reduceBEq, Nat.reduceBNe, Nat.reduceGT, Int.reduceAdd, Int.reduceSub, Int.reduceMul, Int.reduceNeg, Int.reduceLT, Int.reduceLE, Int.reduceEq, Int.reduceNe, Int.reduceBEq, Int.reduceBNe, Int.reduceToNat, Int.reduceGT, Int.reduceGE, ↓reduceIte, decide_true, decide_false]
        first | done | (refine hQ1 _ _ ?_; simp (decide := true) (maxSteps := 4000000) only [go_sem, Nat.reduceAdd, Nat.reduceSub, Nat.reduceMul, Nat.reduceDiv, Nat.reduceMod, Nat.reduceLT, Nat.reduceLeDiff, Nat.reduceEqDiff, Nat.reduceBEq, Nat.reduceBNe, Nat.reduceGT, Int.reduceAdd, Int.reduceSub, Int.reduceMul, Int.reduceNeg, Int.reduceLT, Int.reduceLE, Int.reduceEq, Int.reduceNe, Int.reduceBEq, Int.reduceBNe, Int.reduceToNat, Int.reduceGT, Int.reduceGE, ↓reduceIte, decide_true, decide_false])
    · have h0 : b.length ≠ 0 := by simpa using hb
      have h1 : ((0 : Int) != b.length) = true := by simp; omega
      have h2 : decide ([] = b) = false := by simp; exact hb
      refine pcalls_by Try.mixes noSpec_ok (fn := Try.f25) Try.func25 rfl (by kernel_rfl) (by show 2 ≤ _; decide) ?_
      simp (decide := true) (maxSteps := 4000000) only [go_sem, Nat.reduceAdd, Nat.reduceSub, Nat.reduceMul, Nat.reduceDiv, Nat.reduceMod, Nat.reduceLT, Nat.reduceLeDiff, Nat.reduceEqDiff, Nat.reduceBEq, Nat.reduceBNe, Nat.reduceGT, Int.reduceAdd, Int.reduceSub, Int.reduceMul, Int.reduceNeg, Int.reduceLT, Int.reduceLE, Int.reduceEq, Int.reduceNe, Int.reduceBEq, Int.reduceBNe, Int.reduceToNat, Int.reduceGT, Int.reduceGE, ↓reduceIte, decide_true, decide_false, Try.f25, h1, h2]
  · by_cases hb : a = []
    · subst hb
      refine pcalls_by Try.mixes noSpec_ok (fn := Try.f25) Try.func25 rfl (by kernel_rfl) (by show 2 ≤ _; decide) ?_
      simp (decide := true) (maxSteps := 4000000) only [go_sem, Nat.reduceAdd, Nat.reduceSub, Nat.reduceMul, Nat.reduceDiv, Nat.reduceMod, Nat.reduceLT, Nat.reduceLeDiff, Nat.reduceEqDiff, Nat.reduceBEq, Nat.reduceBNe, Nat.reduceGT, Int.reduceAdd, Int.reduceSub, Int.reduceMul, Int.reduceNeg, Int.reduceLT, Int.reduceLE, Int.reduceEq, Int.reduceNe, Int.reduceBEq, Int.reduceBNe, Int.reduceToNat, Int.reduceGT, Int.reduceGE, ↓reduceIte, decide_true, decide_false, eq_self, Nat.mul_one, Nat.zero_mul, Nat.one_mul, Int.le_refl, Nat.le_refl, Int.cast_ofNat_Int, Try.f25, List.length_nil, Int.cast_ofNat_Int, bne_self_eq_false]
      refine pwpC_loopU (A := Unit) [0, 1] (fun _ => [(5, .t (.int .i64 0))]) (fun _ => []) (fun _ => 0) () (by decide) (fun _ => by rfl) ?_ fun Q1 hQ1 k I1 hI1 => ?_
      · simp (decide := true) (maxSteps := 4000000) only [go_sem, Nat.reduceAdd, Nat.reduceSub, Nat.reduceMul, Nat.reduceDiv, Nat.reduceMod, Nat.reduceLT, Nat.reduceLeDiff, Nat.reduceEqDiff, Nat.reduceBEq, Nat.reduceBNe, Nat.reduceGT, Int.reduceAdd, Int.reduceSub, Int.reduceMul, Int.reduceNeg, Int.reduceLT, Int.reduceLE, Int.reduceEq, Int.reduceNe, Int.reduceBEq, Int.reduceBNe, Int.reduceToNat, Int.reduceGT, Int.reduceGE, ↓reduceIte, decide_true, decide_false]
      · simp (decide := true) (maxSteps := 4000000) only [go_sem, Nat.reduceAdd, Nat.reduceSub, Nat.reduceMul, Nat.reduceDiv, Nat.reduceMod, Nat.reduceLT, Nat.reduceLeDiff, Nat.reduceEqDiff, Nat.reduceBEq, Nat.reduceBNe, Nat.reduceGT, Int.reduceAdd, Int.reduceSub, Int.reduceMul, Int.reduceNeg, Int.reduceLT, Int.reduceLE, Int.reduceEq, Int.reduceNe, Int.reduceBEq, Int.reduceBNe, Int.reduceToNat, Int.reduceGT, Int.reduceGE, ↓reduceIte, decide_true, decide_false]
        first | done | (refine hQ1 _ _ ?_; simp (decide := true) (maxSteps := 4000000) only [go_sem, Nat.reduceAdd, Nat.reduceSub, Nat.reduceMul, Nat.reduceDiv, Nat.reduceMod, Nat.reduceLT, Nat.reduceLeDiff, Nat.reduceEqDiff, Nat.reduceBEq, Nat.reduceBNe, Nat.reduceGT, Int.reduceAdd, Int.reduceSub, Int.reduceMul, Int.reduceNeg, Int.reduceLT, Int.reduceLE, Int.reduceEq, Int.reduceNe, Int.reduceBEq, Int.reduceBNe, Int.reduceToNat, Int.reduceGT, Int.reduceGE, ↓reduceIte, decide_true, decide_false])
    · have h0 : a.length ≠ 0 := by simpa using hb
      have h1 : ((a.length : Int) != 0) = true := by simp; omega
      have h2 : decide (a = []) = false := by simpa using hb
      refine pcalls_by Try.mixes noSpec_ok (fn := Try.f25) Try.func25 rfl (by kernel_rfl) (by show 2 ≤ _; decide) ?_
      simp (decide := true) (maxSteps := 4000000) only [go_sem, Nat.reduceAdd, Nat.reduceSub, Nat.reduceMul, Nat.reduceDiv, Nat.reduceMod, Nat.reduceLT, Nat.reduceLeDiff, Nat.reduceEqDiff, Nat.reduceBEq, Nat.reduceBNe, Nat.reduceGT, Int.reduceAdd, Int.reduceSub, Int.reduceMul, Int.reduceNeg, Int.reduceLT, Int.reduceLE, Int.reduceEq, Int.reduceNe, Int.reduceBEq, Int.reduceBNe, Int.reduceToNat, Int.reduceGT, Int.reduceGE, ↓reduceIte, decide_true, decide_false, Try.f25, h1, h2]
  · rw [ic_ints, ic_ints]; exact Same_c a b fa fb ha
noncomputable def gSame : List TV → Option TV
  | [s, t] => match rowL unI s, rowL unI t with
    | some a, some b => if a.length ≤ 9223372036854775806 then some (.bool (decide (a = b))) else none
    | _, _ => none
  | _ => none
theorem gSame_ok : ∀ xs r, gSame xs = some r → PCalls Try.prog 25 xs r := by
  intro xs r h
  unfold gSame at h
  split at h
  · split at h
    · rename_i a b ha hb
      split at h
      · rename_i hc; cases h; exact Same_d (rowL_some (un := unI) rfl (@unI_some) ha) (rowL_some (un := unI) rfl (@unI_some) hb) hc
      · cases h
    · cases h
  · cases h
attribute [go_sem] gSame

noncomputable def glTilt : List TV → Option TV
  | [.agg [.int .i64 m, .int .i64 a, .int .i64 b, .int .i64 c, .int .i64 d, .int .i64 e, .int .i64 f, .int .i64 g], s] => match rowL unRds s with
    | some l => if l.length ≤ 5864062014806 then some ((tiltR ⟨m, a, b, c, d, e, f, g⟩ l).t) else none
    | none => none
  | _ => none
theorem glTilt_ok : ∀ xs r, glTilt xs = some r → PCalls Try.prog 20 xs r := by
  intro xs r h
  unfold glTilt at h
  split at h
  · split at h
    · rename_i l hl
      have hl := rowL_some (un := unRds) rfl (@unRds_some) hl
      split at h
      · rename_i hc; cases h; exact lTilt_c ⟨_, _, _, _, _, _, _, _⟩ hl hc
      · cases h
    · cases h
  · cases h
attribute [go_sem] glTilt
noncomputable def glCan : List TV → Option TV
  | [.agg [.int .i64 m, .int .i64 a, .int .i64 b, .int .i64 c, .int .i64 d, .int .i64 e, .int .i64 f, .int .i64 g], s, .agg [.int .i64 tv, .int .i64 tz, .int .i64 tt]] => match rowL unRds s with
    | some l => if l.length ≤ 5864062014806 then some (.tup [.bool (canP ⟨m, a, b, c, d, e, f, g⟩ l tv tz tt).1, .int .i64 (canP ⟨m, a, b, c, d, e, f, g⟩ l tv tz tt).2]) else none
    | none => none
  | _ => none
theorem glCan_ok : ∀ xs r, glCan xs = some r → PCalls Try.prog 16 xs r := by
  intro xs r h
  unfold glCan at h
  split at h
  · split at h
    · rename_i l hl
      have hl := rowL_some (un := unRds) rfl (@unRds_some) hl
      split at h
      · rename_i hc; cases h; exact lCan_c ⟨_, _, _, _, _, _, _, _⟩ hl hc _ _ _
      · cases h
    · cases h
  · cases h
attribute [go_sem] glCan
noncomputable def glNext : List TV → Option TV
  | [.agg [.int .i64 m, .int .i64 a, .int .i64 b, .int .i64 c, .int .i64 d, .int .i64 e, .int .i64 f, .int .i64 g], s] => match rowL unRds s with
    | some l => if l.length ≤ 5864062014806 then some (.tup [.bool (nextP ⟨m, a, b, c, d, e, f, g⟩ l).1, .int .i64 (nextP ⟨m, a, b, c, d, e, f, g⟩ l).2.1, .int .i64 (nextP ⟨m, a, b, c, d, e, f, g⟩ l).2.2]) else none
    | none => none
  | _ => none
theorem glNext_ok : ∀ xs r, glNext xs = some r → PCalls Try.prog 26 xs r := by
  intro xs r h
  unfold glNext at h
  split at h
  · split at h
    · rename_i l hl
      have hl := rowL_some (un := unRds) rfl (@unRds_some) hl
      split at h
      · rename_i hc; cases h; exact lNext_c ⟨_, _, _, _, _, _, _, _⟩ hl hc
      · cases h
    · cases h
  · cases h
attribute [go_sem] glNext
noncomputable def glFalse : List TV → Option TV
  | [.agg [.int .i64 m, .int .i64 a, .int .i64 b, .int .i64 c, .int .i64 d, .int .i64 e, .int .i64 f, .int .i64 g], s] => match rowL unRds s with
    | some l => if l.length ≤ 5864062014806 then some (.tup [(falseP ⟨m, a, b, c, d, e, f, g⟩ l).1, .int .i64 (falseP ⟨m, a, b, c, d, e, f, g⟩ l).2]) else none
    | none => none
  | _ => none
theorem glFalse_ok : ∀ xs r, glFalse xs = some r → PCalls Try.prog 23 xs r := by
  intro xs r h
  unfold glFalse at h
  split at h
  · split at h
    · rename_i l hl
      have hl := rowL_some (un := unRds) rfl (@unRds_some) hl
      split at h
      · rename_i hc; cases h; exact lFalse_c ⟨_, _, _, _, _, _, _, _⟩ hl hc
      · cases h
    · cases h
  · cases h
attribute [go_sem] glFalse
noncomputable def glClicks : List TV → Option TV
  | [.agg [.int .i64 a, .int .i64 b], .int .i64 w, .int .i64 c] => some (.tup [.int .i64 (clicksP ⟨a, b⟩ w c).1, .int .i64 (clicksP ⟨a, b⟩ w c).2])
  | _ => none
theorem glClicks_ok : ∀ xs r, glClicks xs = some r → PCalls Try.prog 28 xs r := by
  intro xs r h
  unfold glClicks at h
  split at h
  · cases h; exact lClicks_c ⟨_, _⟩ _ _
  · cases h
attribute [go_sem] glClicks
noncomputable def glChoose : List TV → Option TV
  | [s, t, .agg [.int .i64 rg, .int .i64 fl]] => match rowL unVials s, rowL unI t with
    | some a, some b => if a.length ≤ 2199023255552 then some (.tup [.int .i64 (chooseP a b rg fl).1, .int .i64 (chooseP a b rg fl).2]) else none
    | _, _ => none
  | _ => none
theorem glChoose_ok : ∀ xs r, glChoose xs = some r → PCalls Try.prog 30 xs r := by
  intro xs r h
  unfold glChoose at h
  split at h
  · split at h
    · rename_i a b ha hb
      split at h
      · rename_i hc; cases h; exact lChoose_c (rowL_some (un := unVials) rfl (@unVials_some) ha) (rowL_some (un := unI) rfl (@unI_some) hb) _ _ hc
      · cases h
    · cases h
  · cases h
attribute [go_sem] glChoose
noncomputable def spJ1 : Pm.Spec := (((((((spB3.one 25 gSame).one 18 glCheck).one 20 glTilt).one 16 glCan).one 26 glNext).one 23 glFalse).one 28 glClicks).one 30 glChoose
@[go_sem] theorem spJ1_p (f : FuncId) (xs : List TV) : spJ1.p f xs = Pm.Spec.p ((((((((spB3.one 25 gSame).one 18 glCheck).one 20 glTilt).one 16 glCan).one 26 glNext).one 23 glFalse).one 28 glClicks).one 30 glChoose) f xs := rfl
@[go_sem] theorem spJ1_h (f : FuncId) (ps : List PV) (hl : List PO) : spJ1.h f ps hl = Pm.Spec.h ((((((((spB3.one 25 gSame).one 18 glCheck).one 20 glTilt).one 16 glCan).one 26 glNext).one 23 glFalse).one 28 glClicks).one 30 glChoose) f ps hl := rfl
@[go_sem] theorem spJ1_fz (f : FuncId) : spJ1.fz f = Pm.Spec.fz ((((((((spB3.one 25 gSame).one 18 glCheck).one 20 glTilt).one 16 glCan).one 26 glNext).one 23 glFalse).one 28 glClicks).one 30 glChoose) f := rfl
@[go_sem] theorem spJ1_fr (f : FuncId) : spJ1.fr f = Pm.Spec.fr ((((((((spB3.one 25 gSame).one 18 glCheck).one 20 glTilt).one 16 glCan).one 26 glNext).one 23 glFalse).one 28 glClicks).one 30 glChoose) f := rfl
@[go_sem] theorem spJ1_mu (t : TypeId) : spJ1.mu t = Pm.Spec.mu ((((((((spB3.one 25 gSame).one 18 glCheck).one 20 glTilt).one 16 glCan).one 26 glNext).one 23 glFalse).one 28 glClicks).one 30 glChoose) t := rfl
theorem spJ1_ok : SpecOk Try.prog spJ1 := Spec.one_ok glChoose_ok (Spec.one_ok glClicks_ok (Spec.one_ok glFalse_ok (Spec.one_ok glNext_ok (Spec.one_ok glCan_ok (Spec.one_ok glTilt_ok (Spec.one_ok glCheck_ok (Spec.one_ok gSame_ok spB3_ok)))))))

theorem oTo_c (a b : Int) : PCalls Try.prog 44 [.int .i64 a, .int .i64 b] (.agg [.int .i64 a, .int .i64 b]) := by
  refine pcalls_by Try.mixes noSpec_ok (fn := Try.f44) Try.func44 rfl (by kernel_rfl) (by show 2 ≤ _; decide) ?_
  simp (decide := true) (maxSteps := 4000000) only [go_sem, Nat.reduceAdd, Nat.reduceSub, Nat.reduceMul, Nat.reduceDiv, Nat.reduceMod, Nat.reduceLT, Nat.reduceLeDiff, Nat.reduceEqDiff, Nat.reduceBEq, Nat.reduceBNe, Nat.reduceGT, Int.reduceAdd, Int.reduceSub, Int.reduceMul, Int.reduceNeg, Int.reduceLT, Int.reduceLE, Int.reduceEq, Int.reduceNe, Int.reduceBEq, Int.reduceBNe, Int.reduceToNat, Int.reduceGT, Int.reduceGE, ↓reduceIte, decide_true, decide_false, Try.f44]
noncomputable def goTo : List TV → Option TV
  | [.int .i64 a, .int .i64 b] => some (.agg [.int .i64 a, .int .i64 b])
  | _ => none
theorem goTo_ok : ∀ xs r, goTo xs = some r → PCalls Try.prog 44 xs r := by
  intro xs r h
  unfold goTo at h
  split at h
  · cases h; exact oTo_c _ _
  · cases h
attribute [go_sem] goTo
noncomputable def spJ2 : Pm.Spec := spJ1.one 44 goTo
@[go_sem] theorem spJ2_p (f : FuncId) (xs : List TV) : spJ2.p f xs = Pm.Spec.p (spJ1.one 44 goTo) f xs := rfl
@[go_sem] theorem spJ2_h (f : FuncId) (ps : List PV) (hl : List PO) : spJ2.h f ps hl = Pm.Spec.h (spJ1.one 44 goTo) f ps hl := rfl
@[go_sem] theorem spJ2_fz (f : FuncId) : spJ2.fz f = Pm.Spec.fz (spJ1.one 44 goTo) f := rfl
@[go_sem] theorem spJ2_fr (f : FuncId) : spJ2.fr f = Pm.Spec.fr (spJ1.one 44 goTo) f := rfl
@[go_sem] theorem spJ2_mu (t : TypeId) : spJ2.mu t = Pm.Spec.mu (spJ1.one 44 goTo) t := rfl
theorem spJ2_ok : SpecOk Try.prog spJ2 := Spec.one_ok goTo_ok spJ1_ok
theorem oVial_c : PCalls Try.prog 43 [] exV.t := by
  refine pcalls_by Try.mixes spJ2_ok (fn := Try.f43) Try.func43 rfl (by kernel_rfl) (by show 0 ≤ _; decide) ?_
  simp (decide := true) (maxSteps := 4000000) only [go_sem, Nat.reduceAdd, Nat.reduceSub, Nat.reduceMul, Nat.reduceDiv, Nat.reduceMod, Nat.reduceLT, Nat.reduceLeDiff, Nat.reduceEqDiff, Nat.reduceBEq, Nat.reduceBNe, Nat.reduceGT, Int.reduceAdd, Int.reduceSub, Int.reduceMul, Int.reduceNeg, Int.reduceLT, Int.reduceLE, Int.reduceEq, Int.reduceNe, Int.reduceBEq, Int.reduceBNe, Int.reduceToNat, Int.reduceGT, Int.reduceGE, ↓reduceIte, decide_true, decide_false, Try.f43, exV, Vial.t, Vial.cs]
theorem oOther_c : PCalls Try.prog 46 [] exO.t := by
  refine pcalls_by Try.mixes spJ2_ok (fn := Try.f46) Try.func46 rfl (by kernel_rfl) (by show 0 ≤ _; decide) ?_
  simp (decide := true) (maxSteps := 4000000) only [go_sem, Nat.reduceAdd, Nat.reduceSub, Nat.reduceMul, Nat.reduceDiv, Nat.reduceMod, Nat.reduceLT, Nat.reduceLeDiff, Nat.reduceEqDiff, Nat.reduceBEq, Nat.reduceBNe, Nat.reduceGT, Int.reduceAdd, Int.reduceSub, Int.reduceMul, Int.reduceNeg, Int.reduceLT, Int.reduceLE, Int.reduceEq, Int.reduceNe, Int.reduceBEq, Int.reduceBNe, Int.reduceToNat, Int.reduceGT, Int.reduceGE, ↓reduceIte, decide_true, decide_false, Try.f46, exO, Vial.t, Vial.cs]
theorem oReadings_c : PCalls Try.prog 45 [] (.sl (exR.flatMap Rd.cs) 3 true) := by
  refine pcalls_by Try.mixes spJ2_ok (fn := Try.f45) Try.func45 rfl (by kernel_rfl) (by show 0 ≤ _; decide) ?_
  simp (decide := true) (maxSteps := 4000000) only [go_sem, Nat.reduceAdd, Nat.reduceSub, Nat.reduceMul, Nat.reduceDiv, Nat.reduceMod, Nat.reduceLT, Nat.reduceLeDiff, Nat.reduceEqDiff, Nat.reduceBEq, Nat.reduceBNe, Nat.reduceGT, Int.reduceAdd, Int.reduceSub, Int.reduceMul, Int.reduceNeg, Int.reduceLT, Int.reduceLE, Int.reduceEq, Int.reduceNe, Int.reduceBEq, Int.reduceBNe, Int.reduceToNat, Int.reduceGT, Int.reduceGE, ↓reduceIte, decide_true, decide_false, Try.f45, exR, Rd.cs, List.flatMap_cons, List.flatMap_nil]
noncomputable def goVial : List TV → Option TV
  | [] => some (exV.t)
  | _ => none
theorem goVial_ok : ∀ xs r, goVial xs = some r → PCalls Try.prog 43 xs r := by
  intro xs r h
  unfold goVial at h
  split at h
  · cases h; exact oVial_c
  · cases h
attribute [go_sem] goVial
noncomputable def goOther : List TV → Option TV
  | [] => some (exO.t)
  | _ => none
theorem goOther_ok : ∀ xs r, goOther xs = some r → PCalls Try.prog 46 xs r := by
  intro xs r h
  unfold goOther at h
  split at h
  · cases h; exact oOther_c
  · cases h
attribute [go_sem] goOther
noncomputable def goReadings : List TV → Option TV
  | [] => some (.sl (exR.flatMap Rd.cs) 3 true)
  | _ => none
theorem goReadings_ok : ∀ xs r, goReadings xs = some r → PCalls Try.prog 45 xs r := by
  intro xs r h
  unfold goReadings at h
  split at h
  · cases h; exact oReadings_c
  · cases h
attribute [go_sem] goReadings
noncomputable def spJ3 : Pm.Spec := ((spJ2.one 43 goVial).one 46 goOther).one 45 goReadings
@[go_sem] theorem spJ3_p (f : FuncId) (xs : List TV) : spJ3.p f xs = Pm.Spec.p (((spJ2.one 43 goVial).one 46 goOther).one 45 goReadings) f xs := rfl
@[go_sem] theorem spJ3_h (f : FuncId) (ps : List PV) (hl : List PO) : spJ3.h f ps hl = Pm.Spec.h (((spJ2.one 43 goVial).one 46 goOther).one 45 goReadings) f ps hl := rfl
@[go_sem] theorem spJ3_fz (f : FuncId) : spJ3.fz f = Pm.Spec.fz (((spJ2.one 43 goVial).one 46 goOther).one 45 goReadings) f := rfl
@[go_sem] theorem spJ3_fr (f : FuncId) : spJ3.fr f = Pm.Spec.fr (((spJ2.one 43 goVial).one 46 goOther).one 45 goReadings) f := rfl
@[go_sem] theorem spJ3_mu (t : TypeId) : spJ3.mu t = Pm.Spec.mu (((spJ2.one 43 goVial).one 46 goOther).one 45 goReadings) t := rfl
theorem spJ3_ok : SpecOk Try.prog spJ3 := Spec.one_ok goReadings_ok (Spec.one_ok goOther_ok (Spec.one_ok goVial_ok spJ2_ok))
theorem ex1 : canP ⟨40, 16, 20, 50, 52, 38, 42, 1⟩ [⟨14, 32, false⟩, ⟨9, 27, true⟩] 50 40 250 = (true, 0) := by decide +kernel
theorem ex2 : tiltR ⟨40, 16, 20, 50, 52, 38, 42, 1⟩ [⟨14, 32, false⟩, ⟨9, 27, true⟩] = ⟨⟨200, 312⟩, ⟨40, 42⟩, 0⟩ := by decide +kernel
theorem ex3 : falseP ⟨40, 16, 20, 50, 52, 38, 42, 1⟩ [⟨14, 32, false⟩, ⟨9, 27, true⟩, ⟨5, 23, true⟩] = (.sl (ints [1, 2]) 2 false, 0) := by rfl
theorem ex4 : nextP ⟨40, 16, 20, 50, 52, 38, 42, 1⟩ [⟨14, 32, false⟩] = (true, 118, 0) := by decide +kernel
theorem ex5 : clicksP ⟨200, 312⟩ 20 60 = (-13, 0) := by decide +kernel
theorem ex6 : chooseP [⟨40, 16, 20, 50, 52, 38, 42, 1⟩, ⟨60, 20, 24, 20, 20, 58, 62, 1⟩] [30, 40] 600 300 = (1, 0) := by decide +kernel
theorem oWorks_c : PCalls Try.prog 22 [] (.bool true) := by
  refine pcalls_by Try.mixes spJ3_ok (fn := Try.f22) Try.func22 rfl (by kernel_rfl) (by show 0 ≤ _; decide) ?_
  simp (decide := true) (maxSteps := 4000000) only [go_sem, Nat.reduceAdd, Nat.reduceSub, Nat.reduceMul, Nat.reduceDiv, Nat.reduceMod, Nat.reduceLT, Nat.reduceLeDiff, Nat.reduceEqDiff, Nat.reduceBEq, Nat.reduceBNe, Nat.reduceGT, Int.reduceAdd, Int.reduceSub, Int.reduceMul, Int.reduceNeg, Int.reduceLT, Int.reduceLE, Int.reduceEq, Int.reduceNe, Int.reduceBEq, Int.reduceBNe, Int.reduceToNat, Int.reduceGT, Int.reduceGE, ↓reduceIte, decide_true, decide_false, eq_self, Nat.mul_one, Nat.zero_mul, Nat.one_mul, Int.le_refl, Nat.le_refl, Int.cast_ofNat_Int, Try.f22, exV, exO, exR, Vial.t, Vial.cs, Rd.cs, List.flatMap_cons, List.flatMap_nil, ex1, ex2, ex3, ex4, ex5, ex6, TE.t, Span.t, Span.cs, unRds, unVials, unI, ints, List.map_cons, List.map_nil]
end Go.Proofs.Ytgofljmnlfnlnaa

/- Part Lk. -/
namespace Go.Proofs.Ytgofljmnlfnlnaa
open Go.RowKit Go.Pm Go.Oc
set_option maxRecDepth 100000
set_option linter.unusedVariables false
set_option maxHeartbeats 4000000

theorem rClicks_c (t : Span) (worth bound : Int) : PCalls Try.prog 29 [t.t, .int .i64 worth, .int .i64 bound] (.tup [.int .i64 (clicksP t worth bound).1, .int .i64 (clicksP t worth bound).2]) := by
  refine pcalls_by Try.mixes spB3_ok (fn := Try.f29) Try.func29 rfl (by kernel_rfl) (by show 3 ≤ _; decide) ?_
  unfold clicksP
  cases h1 : spannedB t (-1000000) 1000000 with
  | false => simp (decide := true) (maxSteps := 4000000) only [go_sem, Nat.reduceAdd, Nat.reduceSub, Nat.reduceMul, Nat.reduceDiv, Nat.reduceMod, Nat.reduceLT, Nat.reduceLeDiff, Nat.reduceEqDiff, Nat.reduceBEq, Nat.reduceBNe, Nat.reduceGT, Int.reduceAdd, Int.reduceSub, Int.reduceMul, Int.reduceNeg, Int.reduceLT, Int.reduceLE, Int.reduceEq, Int.reduceNe, Int.reduceBEq, Int.reduceBNe, Int.reduceToNat, Int.reduceGT, Int.reduceGE, ↓reduceIte, decide_true, decide_false, Try.f29, Span.t, Span.cs, h1]
  | true =>
    cases h2 : inB worth 1 100 with
    | false => simp (decide := true) (maxSteps := 4000000) only [go_sem, Nat.reduceAdd, Nat.reduceSub, Nat.reduceMul, Nat.reduceDiv, Nat.reduceMod, Nat.reduceLT, Nat.reduceLeDiff, Nat.reduceEqDiff, Nat.reduceBEq, Nat.reduceBNe, Nat.reduceGT, Int.reduceAdd, Int.reduceSub, Int.reduceMul, Int.reduceNeg, Int.reduceLT, Int.reduceLE, Int.reduceEq, Int.reduceNe, Int.reduceBEq, Int.reduceBNe, Int.reduceToNat, Int.reduceGT, Int.reduceGE, ↓reduceIte, decide_true, decide_false, Try.f29, Span.t, Span.cs, h1, h2]
    | true =>
      cases h3 : inB bound 0 1000000 with
      | false => simp (decide := true) (maxSteps := 4000000) only [go_sem, Nat.reduceAdd, Nat.reduceSub, Nat.reduceMul, Nat.reduceDiv, Nat.reduceMod, Nat.reduceLT, Nat.reduceLeDiff, Nat.reduceEqDiff, Nat.reduceBEq, Nat.reduceBNe, Nat.reduceGT, Int.reduceAdd, Int.reduceSub, Int.reduceMul, Int.reduceNeg, Int.reduceLT, Int.reduceLE, Int.reduceEq, Int.reduceNe, Int.reduceBEq, Int.reduceBNe, Int.reduceToNat, Int.reduceGT, Int.reduceGE, ↓reduceIte, decide_true, decide_false, Try.f29, Span.t, Span.cs, h1, h2, h3]
      | true =>
        have h1' := h1
        have h2' := inB_iff.1 h2
        have h3' := inB_iff.1 h3
        simp only [spannedB, Bool.and_eq_true, decide_eq_true_eq] at h1'
        have w0 : IntKind.i64.wrap (0 - bound) = -bound := by rw [wrap_in (by omega) (by omega)]; omega
        have w1 : IntKind.i64.wrap (-bound - t.lo) = -bound - t.lo := wrap_in (by omega) (by omega)
        have w2 : IntKind.i64.wrap (bound - t.hi) = bound - t.hi := wrap_in (by omega) (by omega)
        have c0 : 0 < worth ∧ worth ≤ 4000000000000000000 := by omega
        have c1 : -4000000000000000000 ≤ -bound - t.lo ∧ -bound - t.lo ≤ 4000000000000000000 := by omega
        have c2 : -4000000000000000000 ≤ bound - t.hi ∧ bound - t.hi ≤ 4000000000000000000 := by omega
        by_cases g1 : -((-(-bound - t.lo)) / worth) > (bound - t.hi) / worth
        · simp (decide := true) (maxSteps := 4000000) only [go_sem, Nat.reduceAdd, Nat.reduceSub, Nat.reduceMul, Nat.reduceDiv, Nat.reduceMod, Nat.reduceLT, Nat.reduceLeDiff, Nat.reduceEqDiff, Nat.reduceBEq, Nat.reduceBNe, Nat.reduceGT, Int.reduceAdd, Int.reduceSub, Int.reduceMul, Int.reduceNeg, Int.reduceLT, Int.reduceLE, Int.reduceEq, Int.reduceNe, Int.reduceBEq, Int.reduceBNe, Int.reduceToNat, Int.reduceGT, Int.reduceGE, ↓reduceIte, decide_true, decide_false, Try.f29, Span.t, Span.cs, h1, h2, h3, w0, w1, w2, c0, c1, c2, g1]
        · by_cases g2 : -((-(-bound - t.lo)) / worth) > 0
          · simp (decide := true) (maxSteps := 4000000) only [go_sem, Nat.reduceAdd, Nat.reduceSub, Nat.reduceMul, Nat.reduceDiv, Nat.reduceMod, Nat.reduceLT, Nat.reduceLeDiff, Nat.reduceEqDiff, Nat.reduceBEq, Nat.reduceBNe, Nat.reduceGT, Int.reduceAdd, Int.reduceSub, Int.reduceMul, Int.reduceNeg, Int.reduceLT, Int.reduceLE, Int.reduceEq, Int.reduceNe, Int.reduceBEq, Int.reduceBNe, Int.reduceToNat, Int.reduceGT, Int.reduceGE, ↓reduceIte, decide_true, decide_false, Try.f29, Span.t, Span.cs, h1, h2, h3, w0, w1, w2, c0, c1, c2, g1, g2]
          · by_cases g3 : (bound - t.hi) / worth < 0
            · simp (decide := true) (maxSteps := 4000000) only [go_sem, Nat.reduceAdd, Nat.reduceSub, Nat.reduceMul, Nat.reduceDiv, Nat.reduceMod, Nat.reduceLT, Nat.reduceLeDiff, Nat.reduceEqDiff, Nat.reduceBEq, Nat.reduceBNe, Nat.reduceGT, Int.reduceAdd, Int.reduceSub, Int.reduceMul, Int.reduceNeg, Int.reduceLT, Int.reduceLE, Int.reduceEq, Int.reduceNe, Int.reduceBEq, Int.reduceBNe, Int.reduceToNat, Int.reduceGT, Int.reduceGE, ↓reduceIte, decide_true, decide_false, Try.f29, Span.t, Span.cs, h1, h2, h3, w0, w1, w2, c0, c1, c2, g1, g2, g3]
              omega
            · simp (decide := true) (maxSteps := 4000000) only [go_sem, Nat.reduceAdd, Nat.reduceSub, Nat.reduceMul, Nat.reduceDiv, Nat.reduceMod, Nat.reduceLT, Nat.reduceLeDiff, Nat.reduceEqDiff, Nat.reduceBEq, Nat.reduceBNe, Nat.reduceGT, Int.reduceAdd, Int.reduceSub, Int.reduceMul, Int.reduceNeg, Int.reduceLT, Int.reduceLE, Int.reduceEq, Int.reduceNe, Int.reduceBEq, Int.reduceBNe, Int.reduceToNat, Int.reduceGT, Int.reduceGE, ↓reduceIte, decide_true, decide_false, Try.f29, Span.t, Span.cs, h1, h2, h3, w0, w1, w2, c0, c1, c2, g1, g2, g3]
              omega
noncomputable def grClicks : List TV → Option TV
  | [.agg [.int .i64 a, .int .i64 b], .int .i64 w, .int .i64 c] => some (.tup [.int .i64 (clicksP ⟨a, b⟩ w c).1, .int .i64 (clicksP ⟨a, b⟩ w c).2])
  | _ => none
theorem grClicks_ok : ∀ xs r, grClicks xs = some r → PCalls Try.prog 29 xs r := by
  intro xs r h
  unfold grClicks at h
  split at h
  · cases h; exact rClicks_c ⟨_, _⟩ _ _
  · cases h
attribute [go_sem] grClicks
noncomputable def goWorks : List TV → Option TV
  | [] => some (.bool true)
  | _ => none
theorem goWorks_ok : ∀ xs r, goWorks xs = some r → PCalls Try.prog 22 xs r := by
  intro xs r h
  unfold goWorks at h
  split at h
  · cases h; exact oWorks_c
  · cases h
attribute [go_sem] goWorks
noncomputable def spK1 : Pm.Spec := (spJ3.one 22 goWorks).one 29 grClicks
@[go_sem] theorem spK1_p (f : FuncId) (xs : List TV) : spK1.p f xs = Pm.Spec.p ((spJ3.one 22 goWorks).one 29 grClicks) f xs := rfl
@[go_sem] theorem spK1_h (f : FuncId) (ps : List PV) (hl : List PO) : spK1.h f ps hl = Pm.Spec.h ((spJ3.one 22 goWorks).one 29 grClicks) f ps hl := rfl
@[go_sem] theorem spK1_fz (f : FuncId) : spK1.fz f = Pm.Spec.fz ((spJ3.one 22 goWorks).one 29 grClicks) f := rfl
@[go_sem] theorem spK1_fr (f : FuncId) : spK1.fr f = Pm.Spec.fr ((spJ3.one 22 goWorks).one 29 grClicks) f := rfl
@[go_sem] theorem spK1_mu (t : TypeId) : spK1.mu t = Pm.Spec.mu ((spJ3.one 22 goWorks).one 29 grClicks) t := rfl
theorem spK1_ok : SpecOk Try.prog spK1 := Spec.one_ok grClicks_ok (Spec.one_ok goWorks_ok spJ3_ok)
theorem LevelClicks_c (t : Span) (w c : Int) : PCalls Try.prog 6 [t.t, .int .i64 w, .int .i64 c] (.bool true) := by
  refine pcalls_by Try.mixes spK1_ok (fn := Try.f6) Try.func6 rfl (by kernel_rfl) (by show 3 ≤ _; decide) ?_
  simp (decide := true) (maxSteps := 4000000) only [go_sem, Nat.reduceAdd, Nat.reduceSub, Nat.reduceMul, Nat.reduceDiv, Nat.reduceMod, Nat.reduceLT, Nat.reduceLeDiff, Nat.reduceEqDiff, Nat.reduceBEq, Nat.reduceBNe, Nat.reduceGT, Int.reduceAdd, Int.reduceSub, Int.reduceMul, Int.reduceNeg, Int.reduceLT, Int.reduceLE, Int.reduceEq, Int.reduceNe, Int.reduceBEq, Int.reduceBNe, Int.reduceToNat, Int.reduceGT, Int.reduceGE, ↓reduceIte, decide_true, decide_false, eq_self, Nat.mul_one, Nat.zero_mul, Nat.one_mul, Int.le_refl, Nat.le_refl, Int.cast_ofNat_Int, Try.f6, Span.t, Span.cs, beq_self_eq_true]
end Go.Proofs.Ytgofljmnlfnlnaa

/- Part Ln. -/
namespace Go.Oc
open Go Go.Pm Go.Proofs.Ytgofljmnlfnlnaa

theorem snoc_ind {α : Type} {p : List α → Prop} (h0 : p []) (h1 : ∀ l x, p l → p (l ++ [x])) (l : List α) : p l := by
  have : ∀ l : List α, p l.reverse := by
    intro l
    induction l with
    | nil => exact h0
    | cons x l ih => rw [List.reverse_cons]; exact h1 _ _ ih
  simpa using this l.reverse
theorem max_mul_le {a b c t : Int} (hc : 0 ≤ c) : max a b * c ≤ t ↔ a * c ≤ t ∧ b * c ≤ t := by
  rcases Int.le_total a b with h | h
  · rw [Int.max_eq_right h]
    have := Int.mul_le_mul_of_nonneg_right h hc
    constructor
    · intro h; omega
    · intro h; exact h.2
  · rw [Int.max_eq_left h]
    have := Int.mul_le_mul_of_nonneg_right h hc
    constructor
    · intro h; omega
    · intro h; exact h.1
theorem le_min_mul {a b c t : Int} (hc : 0 ≤ c) : t ≤ min a b * c ↔ t ≤ a * c ∧ t ≤ b * c := by
  rcases Int.le_total a b with h | h
  · rw [Int.min_eq_left h]
    have := Int.mul_le_mul_of_nonneg_right h hc
    constructor
    · intro h; omega
    · intro h; exact h.1
  · rw [Int.min_eq_right h]
    have := Int.mul_le_mul_of_nonneg_right h hc
    constructor
    · intro h; omega
    · intro h; exact h.2
theorem fold_in_iff {w z c t : Int} (hc : 0 ≤ c) : ∀ (l : List Mk) (s : Span),
    ((l.foldl (inS w z) s).lo * c ≤ t ∧ t ≤ (l.foldl (inS w z) s).hi * c) ↔ (s.lo * c ≤ t ∧ t ≤ s.hi * c) ∧ ∀ m ∈ l, (outM m z - w) * c ≤ t ∧ t ≤ (outM m z + w) * c
  | [], s => by simp
  | m :: l, s => by
    rw [List.foldl_cons, fold_in_iff hc l (inS w z s m)]
    simp only [inS, max_mul_le hc, le_min_mul hc, List.forall_mem_cons]
    constructor
    · rintro ⟨⟨⟨a, b⟩, c, d⟩, e⟩; exact ⟨⟨a, c⟩, ⟨b, d⟩, e⟩
    · rintro ⟨⟨a, c⟩, ⟨b, d⟩, e⟩; exact ⟨⟨⟨a, b⟩, c, d⟩, e⟩
theorem outM_b {m : Mk} {z : Int} (hm : inB m.at' 0 400 = true) (hz : 0 ≤ z ∧ z ≤ 400) : -400 ≤ outM m z ∧ outM m z ≤ 400 := by
  have := inB_iff.1 hm
  unfold outM; split <;> omega
/-- With a value c, a tilt t and a zero z the middles can be so. -/
theorem within_can {v : Vial} (hv : v.ok = true) {l : List Mk} (hm : mksOk l = true) (h1 : 1 ≤ l.length) {tv tz tt : Int} (h2 : v.v0 ≤ tv) (h3 : tv ≤ v.v1) (h4 : v.z0 ≤ tz) (h5 : tz ≤ v.z1) :
    (decide ((withinS v.wr l tz).lo ≤ (withinS v.wr l tz).hi) && inB tt ((withinS v.wr l tz).lo * tv) ((withinS v.wr l tz).hi * tv)) = canB v l tv tz tt := by
  have hv' := Vial.ok_iff.1 hv
  have key := fold_in_iff (w := v.wr) (z := tz) (c := tv) (t := tt) (by omega) l ⟨-10000, 10000⟩
  rw [show l.foldl (inS v.wr tz) ⟨-10000, 10000⟩ = withinS v.wr l tz from rfl] at key
  rw [Bool.eq_iff_iff]
  simp only [Bool.and_eq_true, decide_eq_true_eq, inB_iff, canB, List.all_eq_true]
  have hc : ∀ m : Mk, (outM m tz - v.wr) * tv = tv * (outM m tz - v.wr) ∧ (outM m tz + v.wr) * tv = tv * (outM m tz + v.wr) := fun m => ⟨Int.mul_comm _ _, Int.mul_comm _ _⟩
  constructor
  · rintro ⟨_, h⟩ m hm'
    have := (key.1 h).2 m hm'
    rw [(hc m).1, (hc m).2] at this
    exact this
  · intro h
    have hall : ∀ m ∈ l, (outM m tz - v.wr) * tv ≤ tt ∧ tt ≤ (outM m tz + v.wr) * tv := fun m hm' => by rw [(hc m).1, (hc m).2]; exact h m hm'
    have hs : (-10000 * tv ≤ tt ∧ tt ≤ 10000 * tv) := by
      obtain ⟨m, hm'⟩ : ∃ m, m ∈ l := by cases l with | nil => simp at h1 | cons m _ => exact ⟨m, List.mem_cons_self⟩
      have ho := outM_b (z := tz) (List.all_eq_true.1 hm m hm') (by omega)
      have := hall m hm'
      have a1 := Int.mul_le_mul_of_nonneg_right (c := tv) (show (-10000 : Int) ≤ outM m tz - v.wr by omega) (by omega)
      have a2 := Int.mul_le_mul_of_nonneg_right (c := tv) (show outM m tz + v.wr ≤ (10000 : Int) by omega) (by omega)
      omega
    have h' := key.2 ⟨hs, hall⟩
    refine ⟨?_, h'⟩
    have : (withinS v.wr l tz).lo * tv ≤ (withinS v.wr l tz).hi * tv := by omega
    exact Int.le_of_mul_le_mul_right this (by omega)
/-- A zero with which the middles can be so. -/
def feas (v : Vial) (l : List Mk) (z : Int) : Prop := (v.z0 ≤ z ∧ z ≤ v.z1) ∧ (withinS v.wr l z).lo ≤ (withinS v.wr l z).hi
theorem zerosOf_feas {v : Vial} {l : List Mk} {y : Int × Span} : y ∈ zerosOf v l (allZ v) ↔ y.2 = withinS v.wr l y.1 ∧ feas v l y.1 := by
  constructor
  · intro h
    obtain ⟨a, b, c, d⟩ := zerosOf_mem h
    exact ⟨a, ⟨c, d⟩, by rw [← a]; exact b⟩
  · rintro ⟨a, ⟨c, d⟩, b⟩
    unfold zerosOf allZ range
    simp only [List.mem_filterMap, List.mem_map, List.mem_range]
    refine ⟨y.1, ⟨(y.1 - v.z0).toNat, by omega, by omega⟩, ?_⟩
    rw [if_pos b, ← a]
/-- What a fold of tilts has. -/
structure Has (v : Vial) (ys : List (Int × Span)) (x : TZ) : Prop where
  is : x.is = true ↔ ys ≠ []
  lo : ∀ y ∈ ys, x.tilt.lo ≤ leastP v y.2.lo
  hi : ∀ y ∈ ys, mostP v y.2.hi ≤ x.tilt.hi
  loAt : ys ≠ [] → ∃ y ∈ ys, x.tilt.lo = leastP v y.2.lo
  hiAt : ys ≠ [] → ∃ y ∈ ys, x.tilt.hi = mostP v y.2.hi
  zlo : ys ≠ [] → ∃ y ∈ ys, x.zero.lo = y.1
  zhi : ys ≠ [] → ∃ y ∈ ys, x.zero.hi = y.1
theorem has_snoc {v : Vial} {ys : List (Int × Span)} {x : TZ} (h : Has v ys x) (y : Int × Span) : Has v (ys ++ [y]) (tiltStep v x y) := by
  by_cases hi : x.is = true
  · have hn := h.is.1 hi
    have e : tiltStep v x y = ⟨⟨min x.tilt.lo (leastP v y.2.lo), max x.tilt.hi (mostP v y.2.hi)⟩, ⟨x.zero.lo, y.1⟩, true⟩ := by unfold tiltStep; rw [if_pos hi]
    rw [e]
    refine ⟨by simp, ?_, ?_, fun _ => ?_, fun _ => ?_, fun _ => ?_, fun _ => ⟨y, by simp, rfl⟩⟩
    · intro w hw
      rcases List.mem_append.1 hw with hw | hw
      · have := h.lo w hw; simp only; omega
      · cases List.mem_singleton.1 hw; simp only; omega
    · intro w hw
      rcases List.mem_append.1 hw with hw | hw
      · have := h.hi w hw; simp only; omega
      · cases List.mem_singleton.1 hw; simp only; omega
    · obtain ⟨w, hw, ew⟩ := h.loAt hn
      rcases Int.le_total x.tilt.lo (leastP v y.2.lo) with hl | hl
      · exact ⟨w, List.mem_append_left _ hw, by simp only; omega⟩
      · exact ⟨y, by simp, by simp only; omega⟩
    · obtain ⟨w, hw, ew⟩ := h.hiAt hn
      rcases Int.le_total x.tilt.hi (mostP v y.2.hi) with hl | hl
      · exact ⟨y, by simp, by simp only; omega⟩
      · exact ⟨w, List.mem_append_left _ hw, by simp only; omega⟩
    · obtain ⟨w, hw, ew⟩ := h.zlo hn
      exact ⟨w, List.mem_append_left _ hw, ew⟩
  · have hn : ys = [] := by
      rcases List.eq_nil_or_concat ys with h0 | ⟨_, _, h0⟩
      · exact h0
      · exact absurd (h.is.2 (by rw [h0]; simp)) hi
    subst hn
    have e : tiltStep v x y = ⟨⟨leastP v y.2.lo, mostP v y.2.hi⟩, ⟨y.1, y.1⟩, true⟩ := by unfold tiltStep; rw [if_neg hi]
    rw [e]
    exact ⟨by simp, by simp, by simp, by simp, by simp, by simp, by simp⟩
theorem has_fold (v : Vial) : ∀ ys : List (Int × Span), Has v ys (tiltsOf v ys) := by
  refine snoc_ind ⟨by simp [tiltsOf], by simp, by simp, by simp, by simp, by simp, by simp⟩ fun ys y ih => ?_
  unfold tiltsOf at ih ⊢
  rw [List.foldl_append]
  exact has_snoc ih y
theorem tilts_is {v : Vial} {l : List Mk} : (tilts v l).is = true ↔ ∃ z, feas v l z := by
  have h := has_fold v (zerosOf v l (allZ v))
  rw [show tilts v l = tiltsOf v (zerosOf v l (allZ v)) from rfl, h.is]
  constructor
  · intro hn
    obtain ⟨y, hy⟩ := List.exists_mem_of_ne_nil _ hn
    exact ⟨y.1, (zerosOf_feas.1 hy).2⟩
  · rintro ⟨z, hz⟩ hn
    have : (z, withinS v.wr l z) ∈ zerosOf v l (allZ v) := zerosOf_feas.2 ⟨rfl, hz⟩
    rw [hn] at this; cases this
theorem tilts_lo {v : Vial} {l : List Mk} {z : Int} (h : feas v l z) : (tilts v l).tilt.lo ≤ leastP v (withinS v.wr l z).lo :=
  (has_fold v (zerosOf v l (allZ v))).lo (z, withinS v.wr l z) (zerosOf_feas.2 ⟨rfl, h⟩)
theorem tilts_hi {v : Vial} {l : List Mk} {z : Int} (h : feas v l z) : mostP v (withinS v.wr l z).hi ≤ (tilts v l).tilt.hi :=
  (has_fold v (zerosOf v l (allZ v))).hi (z, withinS v.wr l z) (zerosOf_feas.2 ⟨rfl, h⟩)
theorem tilts_at {v : Vial} {l : List Mk} (h : (tilts v l).is = true) : (∃ z, feas v l z ∧ (tilts v l).tilt.lo = leastP v (withinS v.wr l z).lo) ∧ (∃ z, feas v l z ∧ (tilts v l).tilt.hi = mostP v (withinS v.wr l z).hi) ∧ feas v l (tilts v l).zero.lo ∧ feas v l (tilts v l).zero.hi := by
  have hf := has_fold v (zerosOf v l (allZ v))
  have hn := hf.is.1 h
  obtain ⟨y1, m1, e1⟩ := hf.loAt hn
  obtain ⟨y2, m2, e2⟩ := hf.hiAt hn
  obtain ⟨y3, m3, e3⟩ := hf.zlo hn
  obtain ⟨y4, m4, e4⟩ := hf.zhi hn
  refine ⟨⟨y1.1, (zerosOf_feas.1 m1).2, ?_⟩, ⟨y2.1, (zerosOf_feas.1 m2).2, ?_⟩, ?_, ?_⟩
  · rw [← (zerosOf_feas.1 m1).1]; exact e1
  · rw [← (zerosOf_feas.1 m2).1]; exact e2
  · show feas v l (tiltsOf v _).zero.lo; rw [e3]; exact (zerosOf_feas.1 m3).2
  · show feas v l (tiltsOf v _).zero.hi; rw [e4]; exact (zerosOf_feas.1 m4).2
theorem allZ_sorted (v : Vial) : (allZ v).Pairwise (· < ·) := by
  unfold allZ range
  rw [List.pairwise_map]
  exact List.Pairwise.imp (fun h => by omega) List.pairwise_lt_range
theorem zerosOf_sorted (v : Vial) (l : List Mk) : (zerosOf v l (allZ v)).Pairwise (fun a b => a.1 < b.1) := by
  unfold zerosOf
  refine List.Pairwise.filterMap _ ?_ (allZ_sorted v)
  intro a b hab x hx y hy
  simp only [Option.mem_def] at hx hy
  split at hx <;> cases hx
  split at hy <;> cases hy
  exact hab
theorem ord_fold (v : Vial) : ∀ ys : List (Int × Span), ys.Pairwise (fun a b => a.1 < b.1) → ∀ y ∈ ys, (tiltsOf v ys).zero.lo ≤ y.1 ∧ y.1 ≤ (tiltsOf v ys).zero.hi := by
  refine snoc_ind (fun _ y h => by cases h) fun ys x ih => ?_
  · intro hp
    rw [List.pairwise_append] at hp
    obtain ⟨h1, _, h3⟩ := hp
    have ih := ih h1
    have hlast : ∀ w ∈ ys, w.1 < x.1 := fun w hw => h3 w hw x (by simp)
    have hf := has_fold v ys
    have e : tiltsOf v (ys ++ [x]) = tiltStep v (tiltsOf v ys) x := by unfold tiltsOf; rw [List.foldl_append]; rfl
    rw [e]
    by_cases hi : (tiltsOf v ys).is = true
    · have hn := hf.is.1 hi
      obtain ⟨w0, hw0, _⟩ := hf.zlo hn
      have h0 := ih w0 hw0
      have h0' := hlast w0 hw0
      unfold tiltStep
      rw [if_pos hi]
      intro y hy
      rcases List.mem_append.1 hy with hy | hy
      · have := ih y hy; have := hlast y hy; simp only; omega
      · cases List.mem_singleton.1 hy; simp only; omega
    · have hn : ys = [] := by
        rcases List.eq_nil_or_concat ys with h0 | ⟨_, _, h0⟩
        · exact h0
        · exact absurd (hf.is.2 (by rw [h0]; simp)) hi
      subst hn
      unfold tiltStep
      rw [if_neg hi]
      intro y hy
      cases List.mem_singleton.1 hy
      simp
theorem tilts_zero {v : Vial} {l : List Mk} {z : Int} (h : feas v l z) : (tilts v l).zero.lo ≤ z ∧ z ≤ (tilts v l).zero.hi :=
  ord_fold v _ (zerosOf_sorted v l) (z, withinS v.wr l z) (zerosOf_feas.2 ⟨rfl, h⟩)
/-- THE THEOREM OF THE BUBBLE, plainly. -/
theorem bubble {v : Vial} (hv : v.ok = true) {l : List Mk} (hm : mksOk l = true) (h1 : 1 ≤ l.length) {tv tz tt : Int} (h2 : v.v0 ≤ tv) (h3 : tv ≤ v.v1) (h4 : v.z0 ≤ tz) (h5 : tz ≤ v.z1) (hc : canB v l tv tz tt = true) :
    (tilts v l).is = true ∧ (tilts v l).tilt.lo ≤ tt ∧ tt ≤ (tilts v l).tilt.hi ∧ (tilts v l).zero.lo ≤ tz ∧ tz ≤ (tilts v l).zero.hi := by
  rw [← within_can hv hm h1 h2 h3 h4 h5, Bool.and_eq_true, decide_eq_true_eq, inB_iff] at hc
  have hf : feas v l tz := ⟨⟨h4, h5⟩, hc.1⟩
  have hv' := Vial.ok_iff.1 hv
  have a := tilts_lo hf
  have b := tilts_hi hf
  have c := tilts_zero hf
  have lo1 : leastP v (withinS v.wr l tz).lo ≤ (withinS v.wr l tz).lo * tv := by
    unfold leastP
    rcases Int.le_total 0 (withinS v.wr l tz).lo with h | h
    · have := Int.mul_le_mul_of_nonneg_left h2 h; omega
    · have := Int.mul_le_mul_of_nonpos_left h h3; omega
  have hi1 : (withinS v.wr l tz).hi * tv ≤ mostP v (withinS v.wr l tz).hi := by
    unfold mostP
    rcases Int.le_total 0 (withinS v.wr l tz).hi with h | h
    · have := Int.mul_le_mul_of_nonneg_left h3 h; omega
    · have := Int.mul_le_mul_of_nonpos_left h h2; omega
  exact ⟨tilts_is.2 ⟨tz, hf⟩, by omega, by omega, c.1, c.2⟩
end Go.Oc

/- Part Lr. -/
namespace Go.Proofs.Ytgofljmnlfnlnaa
open Go.RowKit Go.Pm Go.Oc
set_option maxRecDepth 100000
set_option linter.unusedVariables false
set_option maxHeartbeats 1000000

theorem rCheck_c (v : Vial) : PCalls Try.prog 19 [v.t] (.int .i64 (if v.ok then 0 else 30)) := by
  refine pcalls_by Try.mixes spB3_ok (fn := Try.f19) Try.func19 rfl (by kernel_rfl) (by show 1 ≤ _; decide) ?_
  simp (decide := true) (maxSteps := 4000000) only [go_sem, Nat.reduceAdd, Nat.reduceSub, Nat.reduceMul, Nat.reduceDiv, Nat.reduceMod, Nat.reduceLT, Nat.reduceLeDiff, Nat.reduceEqDiff, Nat.reduceBEq, Nat.reduceBNe, Nat.reduceGT, Int.reduceAdd, Int.reduceSub, Int.reduceMul, Int.reduceNeg, Int.reduceLT, Int.reduceLE, Int.reduceEq, Int.reduceNe, Int.reduceBEq, Int.reduceBNe, Int.reduceToNat, Int.reduceGT, Int.reduceGE, ↓reduceIte, decide_true, decide_false, Try.f19, Vial.t, Vial.cs]
  cases h1 : inB v.marks 10 200 with
  | false => simp (decide := true) (maxSteps := 4000000) only [go_sem, Nat.reduceAdd, Nat.reduceSub, Nat.reduceMul, Nat.reduceDiv, Nat.reduceMod, Nat.reduceLT, Nat.reduceLeDiff, Nat.reduceEqDiff, Nat.reduceBEq, Nat.reduceBNe, Nat.reduceGT, Int.reduceAdd, Int.reduceSub, Int.reduceMul, Int.reduceNeg, Int.reduceLT, Int.reduceLE, Int.reduceEq, Int.reduceNe, Int.reduceBEq, Int.reduceBNe, Int.reduceToNat, Int.reduceGT, Int.reduceGE, ↓reduceIte, decide_true, decide_false, h1, Vial.ok]
  | true =>
    have h1' := inB_iff.1 h1
    have e : IntKind.i64.wrap (2 * v.marks) = 2 * v.marks := wrap_in (by omega) (by omega)
    cases h2 : spannedB ⟨v.l0, v.l1⟩ 1 v.marks <;> cases h3 : spannedB ⟨v.v0, v.v1⟩ 1 500 <;> cases h4 : spannedB ⟨v.z0, v.z1⟩ 0 (2 * v.marks) <;> cases h5 : inB v.wr 0 8 <;> simp (decide := true) (maxSteps := 4000000) only [go_sem, Nat.reduceAdd, Nat.reduceSub, Nat.reduceMul, Nat.reduceDiv, Nat.reduceMod, Nat.reduceLT, Nat.reduceLeDiff, Nat.reduceEqDiff, Nat.reduceBEq, Nat.reduceBNe, Nat.reduceGT, Int.reduceAdd, Int.reduceSub, Int.reduceMul, Int.reduceNeg, Int.reduceLT, Int.reduceLE, Int.reduceEq, Int.reduceNe, Int.reduceBEq, Int.reduceBNe, Int.reduceToNat, Int.reduceGT, Int.reduceGE, ↓reduceIte, decide_true, decide_false, h1, h2, h3, h4, h5, e, Vial.ok]
noncomputable def grCheck : List TV → Option TV
  | [.agg [.int .i64 m, .int .i64 a, .int .i64 b, .int .i64 c, .int .i64 d, .int .i64 e, .int .i64 f, .int .i64 g]] => some (.int .i64 (if Vial.ok ⟨m, a, b, c, d, e, f, g⟩ then 0 else 30))
  | _ => none
theorem grCheck_ok : ∀ xs r, grCheck xs = some r → PCalls Try.prog 19 xs r := by
  intro xs r h
  unfold grCheck at h
  split at h
  · cases h; exact rCheck_c ⟨_, _, _, _, _, _, _, _⟩
  · cases h
attribute [go_sem] grCheck

theorem rReadings_c (v : Vial) (l : List Rd) (full : Bool) (hv : v.ok = true) : PCalls Try.prog 69 [v.t, .sl (l.flatMap Rd.cs) l.length full] (.bool (rdsOk v l)) := by
  have hv' := Vial.ok_iff.1 hv
  have e1 : IntKind.i64.wrap (v.l0 - v.wr) = v.l0 - v.wr := wrap_in (by omega) (by omega)
  have e2 : IntKind.i64.wrap (v.l1 + v.wr) = v.l1 + v.wr := wrap_in (by omega) (by omega)
  refine pcalls_by Try.mixes spB3_ok (fn := Try.f69) Try.func69 rfl (by kernel_rfl) (by show 2 ≤ _; decide) ?_
  simp (decide := true) (maxSteps := 4000000) only [go_sem, Nat.reduceAdd, Nat.reduceSub, Nat.reduceMul, Nat.reduceDiv, Nat.reduceMod, Nat.reduceLT, Nat.reduceLeDiff, Nat.reduceEqDiff, Nat.reduceBEq, Nat.reduceBNe, Nat.reduceGT, Int.reduceAdd, Int.reduceSub, Int.reduceMul, Int.reduceNeg, Int.reduceLT, Int.reduceLE, Int.reduceEq, Int.reduceNe, Int.reduceBEq, Int.reduceBNe, Int.reduceToNat, Int.reduceGT, Int.reduceGE, ↓reduceIte, decide_true, decide_false, Try.f69, Vial.t, Vial.cs]
  refine pwpC_loop (A := Nat) (fun k => { env := [(6, .t (.int .i64 k)), (5, .t (.bool (inB l.length 1 8 && (l.take k).all (rdOk v)))), (2, .ptr 0 0), (1, .t (.sl (l.flatMap Rd.cs) l.length full))], heap := [.box (v.cs.map .t)] }) (fun k => l.length - k) 0 ?_ (fun k => by rfl) fun k => ?_
  · simp (decide := true) (maxSteps := 4000000) only [go_sem, Nat.reduceAdd, Nat.reduceSub, Nat.reduceMul, Nat.reduceDiv, Nat.reduceMod, Nat.reduceLT, Nat.reduceLeDiff, Nat.reduceEqDiff, Nat.reduceBEq, Nat.reduceBNe, Nat.reduceGT, Int.reduceAdd, Int.reduceSub, Int.reduceMul, Int.reduceNeg, Int.reduceLT, Int.reduceLE, Int.reduceEq, Int.reduceNe, Int.reduceBEq, Int.reduceBNe, Int.reduceToNat, Int.reduceGT, Int.reduceGE, ↓reduceIte, decide_true, decide_false, Vial.cs]
  · by_cases hlt : (k : Int) < l.length
    · obtain ⟨x, hx⟩ := get_lt hlt
      have hd := flat_at Rd.cs (n := 3) (fun _ => rfl) hx
      cases hok : (inB l.length 1 8 && (l.take k).all (rdOk v)) with
      | true =>
        have h8 : (l.length : Int) ≤ 8 := by simp [inB] at hok; omega
        have hk : IntKind.i64.wrap (k + 1) = ((k + 1 : Nat) : Int) := by rw [wrap_in (by omega) (by omega)]; omega
        have e0 : (inB l.length 1 8 && (l.take (k + 1)).all (rdOk v)) = rdOk v x := by rw [take_all _ hx, ← Bool.and_assoc, hok, Bool.true_and]
        cases h1 : inB x.left 0 v.marks with
        | false =>
          simp (decide := true) (maxSteps := 4000000) only [go_sem, Nat.reduceAdd, Nat.reduceSub, Nat.reduceMul, Nat.reduceDiv, Nat.reduceMod, Nat.reduceLT, Nat.reduceLeDiff, Nat.reduceEqDiff, Nat.reduceBEq, Nat.reduceBNe, Nat.reduceGT, Int.reduceAdd, Int.reduceSub, Int.reduceMul, Int.reduceNeg, Int.reduceLT, Int.reduceLE, Int.reduceEq, Int.reduceNe, Int.reduceBEq, Int.reduceBNe, Int.reduceToNat, Int.reduceGT, Int.reduceGE, ↓reduceIte, decide_true, decide_false, hok, hlt, hd, Rd.cs, Vial.cs, h1]
          refine ⟨k + 1, ⟨hk, ?_⟩, by omega⟩
          rw [e0]; simp [rdOk, h1]
        | true =>
          have h1' := inB_iff.1 h1
          have e3 : IntKind.i64.wrap (x.left + 1) = x.left + 1 := wrap_in (by omega) (by omega)
          cases h2 : inB x.right (x.left + 1) v.marks with
          | false =>
            simp (decide := true) (maxSteps := 4000000) only [go_sem, Nat.reduceAdd, Nat.reduceSub, Nat.reduceMul, Nat.reduceDiv, Nat.reduceMod, Nat.reduceLT, Nat.reduceLeDiff, Nat.reduceEqDiff, Nat.reduceBEq, Nat.reduceBNe, Nat.reduceGT, Int.reduceAdd, Int.reduceSub, Int.reduceMul, Int.reduceNeg, Int.reduceLT, Int.reduceLE, Int.reduceEq, Int.reduceNe, Int.reduceBEq, Int.reduceBNe, Int.reduceToNat, Int.reduceGT, Int.reduceGE, ↓reduceIte, decide_true, decide_false, hok, hlt, hd, Rd.cs, Vial.cs, h1, e3, h2]
            refine ⟨k + 1, ⟨hk, ?_⟩, by omega⟩
            rw [e0]; simp [rdOk, h2]
          | true =>
            have h2' := inB_iff.1 h2
            have e4 : IntKind.i64.wrap (x.right - x.left) = x.right - x.left := wrap_in (by omega) (by omega)
            simp (decide := true) (maxSteps := 4000000) only [go_sem, Nat.reduceAdd, Nat.reduceSub, Nat.reduceMul, Nat.reduceDiv, Nat.reduceMod, Nat.reduceLT, Nat.reduceLeDiff, Nat.reduceEqDiff, Nat.reduceBEq, Nat.reduceBNe, Nat.reduceGT, Int.reduceAdd, Int.reduceSub, Int.reduceMul, Int.reduceNeg, Int.reduceLT, Int.reduceLE, Int.reduceEq, Int.reduceNe, Int.reduceBEq, Int.reduceBNe, Int.reduceToNat, Int.reduceGT, Int.reduceGE, ↓reduceIte, decide_true, decide_false, hok, hlt, hd, Rd.cs, Vial.cs, h1, e3, h2, e4, e1, e2]
            refine ⟨k + 1, ⟨hk, ?_⟩, by omega⟩
            rw [e0]; simp [rdOk, h1, h2]
      | false =>
        simp (decide := true) (maxSteps := 4000000) only [go_sem, Nat.reduceAdd, Nat.reduceSub, Nat.reduceMul, Nat.reduceDiv, Nat.reduceMod, Nat.reduceLT, Nat.reduceLeDiff, Nat.reduceEqDiff, Nat.reduceBEq, Nat.reduceBNe, Nat.reduceGT, Int.reduceAdd, Int.reduceSub, Int.reduceMul, Int.reduceNeg, Int.reduceLT, Int.reduceLE, Int.reduceEq, Int.reduceNe, Int.reduceBEq, Int.reduceBNe, Int.reduceToNat, Int.reduceGT, Int.reduceGE, ↓reduceIte, decide_true, decide_false, hok, hlt]
        symm
        cases hb : inB l.length 1 8 with
        | false => simp [rdsOk, hb]
        | true => rw [hb, Bool.true_and] at hok; simp [rdsOk, all_of_take hok]
    · simp (decide := true) (maxSteps := 4000000) only [go_sem, Nat.reduceAdd, Nat.reduceSub, Nat.reduceMul, Nat.reduceDiv, Nat.reduceMod, Nat.reduceLT, Nat.reduceLeDiff, Nat.reduceEqDiff, Nat.reduceBEq, Nat.reduceBNe, Nat.reduceGT, Int.reduceAdd, Int.reduceSub, Int.reduceMul, Int.reduceNeg, Int.reduceLT, Int.reduceLE, Int.reduceEq, Int.reduceNe, Int.reduceBEq, Int.reduceBNe, Int.reduceToNat, Int.reduceGT, Int.reduceGE, ↓reduceIte, decide_true, decide_false, hlt]
      unfold rdsOk
      rw [List.take_of_length_le (by omega)]
theorem rReadings_n (v : Vial) : PCalls Try.prog 69 [v.t, .nilSl] (.bool false) := by
  refine pcalls_by Try.mixes spB3_ok (fn := Try.f69) Try.func69 rfl (by kernel_rfl) (by show 2 ≤ _; decide) ?_
  simp (decide := true) (maxSteps := 4000000) only [go_sem, Nat.reduceAdd, Nat.reduceSub, Nat.reduceMul, Nat.reduceDiv, Nat.reduceMod, Nat.reduceLT, Nat.reduceLeDiff, Nat.reduceEqDiff, Nat.reduceBEq, Nat.reduceBNe, Nat.reduceGT, Int.reduceAdd, Int.reduceSub, Int.reduceMul, Int.reduceNeg, Int.reduceLT, Int.reduceLE, Int.reduceEq, Int.reduceNe, Int.reduceBEq, Int.reduceBNe, Int.reduceToNat, Int.reduceGT, Int.reduceGE, ↓reduceIte, decide_true, decide_false, Try.f69, Vial.t, Vial.cs]
  refine pwpC_loop (A := Unit) (fun _ => { env := [(5, .t (.bool false))], heap := [] }) (fun _ => 0) () ?_ (fun k => by rfl) fun k => ?_
  · simp (decide := true) (maxSteps := 4000000) only [go_sem, Nat.reduceAdd, Nat.reduceSub, Nat.reduceMul, Nat.reduceDiv, Nat.reduceMod, Nat.reduceLT, Nat.reduceLeDiff, Nat.reduceEqDiff, Nat.reduceBEq, Nat.reduceBNe, Nat.reduceGT, Int.reduceAdd, Int.reduceSub, Int.reduceMul, Int.reduceNeg, Int.reduceLT, Int.reduceLE, Int.reduceEq, Int.reduceNe, Int.reduceBEq, Int.reduceBNe, Int.reduceToNat, Int.reduceGT, Int.reduceGE, ↓reduceIte, decide_true, decide_false, inB]
  · simp (decide := true) (maxSteps := 4000000) only [go_sem, Nat.reduceAdd, Nat.reduceSub, Nat.reduceMul, Nat.reduceDiv, Nat.reduceMod, Nat.reduceLT, Nat.reduceLeDiff, Nat.reduceEqDiff, Nat.reduceBEq, Nat.reduceBNe, Nat.reduceGT, Int.reduceAdd, Int.reduceSub, Int.reduceMul, Int.reduceNeg, Int.reduceLT, Int.reduceLE, Int.reduceEq, Int.reduceNe, Int.reduceBEq, Int.reduceBNe, Int.reduceToNat, Int.reduceGT, Int.reduceGE, ↓reduceIte, decide_true, decide_false]
theorem rReadings_d (v : Vial) {l : List Rd} {s : TV} (hs : IsRow Rd.cs s l) (hv : v.ok = true) : PCalls Try.prog 69 [v.t, s] (.bool (rdsOk v l)) := by
  rcases hs with ⟨rfl, rfl⟩ | ⟨full, rfl⟩
  · exact rReadings_n v
  · exact rReadings_c v l full hv
noncomputable def grReadings : List TV → Option TV
  | [.agg [.int .i64 m, .int .i64 a, .int .i64 b, .int .i64 c, .int .i64 d, .int .i64 e, .int .i64 f, .int .i64 g], s] => match rowL unRds s with
    | some l => if Vial.ok ⟨m, a, b, c, d, e, f, g⟩ = true then some (.bool (rdsOk ⟨m, a, b, c, d, e, f, g⟩ l)) else none
    | none => none
  | _ => none
theorem grReadings_ok : ∀ xs r, grReadings xs = some r → PCalls Try.prog 69 xs r := by
  intro xs r h
  unfold grReadings at h
  split at h
  · split at h
    · rename_i l hl
      have hl := rowL_some (un := unRds) rfl (@unRds_some) hl
      split at h
      · rename_i hc; cases h; exact rReadings_d ⟨_, _, _, _, _, _, _, _⟩ hl hc
      · cases h
    · cases h
  · cases h
attribute [go_sem] grReadings

theorem rMiddles_c (l : List Rd) (full : Bool) (hl : l.length ≤ 8) (hm : mksOk (l.map mid) = true) : PCalls Try.prog 51 [.sl (l.flatMap Rd.cs) l.length full] (if l.length = 0 then .nilSl else .sl ((l.map mid).flatMap Mk.cs) (l.map mid).length false) := by
  refine pcalls_by Try.mixes spB3_ok (fn := Try.f51) Try.func51 rfl (by kernel_rfl) (by show 1 ≤ _; decide) ?_
  simp (decide := true) (maxSteps := 4000000) only [go_sem, Nat.reduceAdd, Nat.reduceSub, Nat.reduceMul, Nat.reduceDiv, Nat.reduceMod, Nat.reduceLT, Nat.reduceLeDiff, Nat.reduceEqDiff, Nat.reduceBEq, Nat.reduceBNe, Nat.reduceGT, Int.reduceAdd, Int.reduceSub, Int.reduceMul, Int.reduceNeg, Int.reduceLT, Int.reduceLE, Int.reduceEq, Int.reduceNe, Int.reduceBEq, Int.reduceBNe, Int.reduceToNat, Int.reduceGT, Int.reduceGE, ↓reduceIte, decide_true, decide_false, Try.f51]
  refine pwpC_loop (A := { k : Nat // k ≤ l.length }) (fun k => { env := [(4, .t (.int .i64 k.1)), (3, .own (((l.take k.1).map mid).flatMap Mk.cs) k.1 0), (0, .t (.sl (l.flatMap Rd.cs) l.length full))], heap := [.tok k.1 114] }) (fun k => l.length - k.1) ⟨0, by omega⟩ ?_ (fun k => by rfl) fun ⟨k, hk⟩ => ?_
  · simp (decide := true) (maxSteps := 4000000) only [go_sem, Nat.reduceAdd, Nat.reduceSub, Nat.reduceMul, Nat.reduceDiv, Nat.reduceMod, Nat.reduceLT, Nat.reduceLeDiff, Nat.reduceEqDiff, Nat.reduceBEq, Nat.reduceBNe, Nat.reduceGT, Int.reduceAdd, Int.reduceSub, Int.reduceMul, Int.reduceNeg, Int.reduceLT, Int.reduceLE, Int.reduceEq, Int.reduceNe, Int.reduceBEq, Int.reduceBNe, Int.reduceToNat, Int.reduceGT, Int.reduceGE, ↓reduceIte, decide_true, decide_false]
  · by_cases hlt : (k : Int) < l.length
    · obtain ⟨x, hx⟩ := get_lt hlt
      have hd := flat_at Rd.cs (n := 3) (fun _ => rfl) hx
      have hc : (List.flatMap Mk.cs (List.map mid (List.take k l))).length = k * 2 := by rw [flat_len Mk.cs (n := 2) (fun _ => rfl)]; simp; omega
      have hr : (k + 1) * 16 ≤ 140737488355328 := by omega
      have hk1 : IntKind.i64.wrap (k + 1) = ((k + 1 : Nat) : Int) := by rw [wrap_in (by omega) (by omega)]; omega
      have hx2 : 0 ≤ x.left + x.right ∧ x.left + x.right ≤ 400 := by
        have := List.all_eq_true.1 hm (mid x) (List.mem_map_of_mem (List.mem_of_getElem? hx))
        exact inB_iff.1 this
      have e : IntKind.i64.wrap (x.left + x.right) = x.left + x.right := wrap_in (by omega) (by omega)
      simp (decide := true) (maxSteps := 4000000) only [go_sem, Nat.reduceAdd, Nat.reduceSub, Nat.reduceMul, Nat.reduceDiv, Nat.reduceMod, Nat.reduceLT, Nat.reduceLeDiff, Nat.reduceEqDiff, Nat.reduceBEq, Nat.reduceBNe, Nat.reduceGT, Int.reduceAdd, Int.reduceSub, Int.reduceMul, Int.reduceNeg, Int.reduceLT, Int.reduceLE, Int.reduceEq, Int.reduceNe, Int.reduceBEq, Int.reduceBNe, Int.reduceToNat, Int.reduceGT, Int.reduceGE, ↓reduceIte, decide_true, decide_false, hlt, hd, Rd.cs, hc, hr, e]
      refine ⟨⟨k + 1, by omega⟩, ?_⟩
      have ht : (List.take (k + 1) l).map mid = (List.take k l).map mid ++ [mid x] := by rw [take_snoc hx]; simp
      simp (decide := true) (maxSteps := 4000000) only [go_sem, Nat.reduceAdd, Nat.reduceSub, Nat.reduceMul, Nat.reduceDiv, Nat.reduceMod, Nat.reduceLT, Nat.reduceLeDiff, Nat.reduceEqDiff, Nat.reduceBEq, Nat.reduceBNe, Nat.reduceGT, Int.reduceAdd, Int.reduceSub, Int.reduceMul, Int.reduceNeg, Int.reduceLT, Int.reduceLE, Int.reduceEq, Int.reduceNe, Int.reduceBEq, Int.reduceBNe, Int.reduceToNat, Int.reduceGT, Int.reduceGE, ↓reduceIte, decide_true, decide_false, hk1, ht, List.flatMap_append, Mk.cs, mid]
      omega
    · have hkl : k = l.length := by omega
      simp (decide := true) (maxSteps := 4000000) only [go_sem, Nat.reduceAdd, Nat.reduceSub, Nat.reduceMul, Nat.reduceDiv, Nat.reduceMod, Nat.reduceLT, Nat.reduceLeDiff, Nat.reduceEqDiff, Nat.reduceBEq, Nat.reduceBNe, Nat.reduceGT, Int.reduceAdd, Int.reduceSub, Int.reduceMul, Int.reduceNeg, Int.reduceLT, Int.reduceLE, Int.reduceEq, Int.reduceNe, Int.reduceBEq, Int.reduceBNe, Int.reduceToNat, Int.reduceGT, Int.reduceGE, ↓reduceIte, decide_true, decide_false, hlt]
      rw [hkl, List.take_length, List.length_map]
theorem rMiddles_d {l : List Rd} {s : TV} (hs : IsRow Rd.cs s l) (h1 : 1 ≤ l.length) (hl : l.length ≤ 8) (hm : mksOk (l.map mid) = true) : PCalls Try.prog 51 [s] (.sl ((l.map mid).flatMap Mk.cs) l.length false) := by
  obtain ⟨full, rfl⟩ := hs.ne h1
  have := rMiddles_c l full hl hm
  rwa [if_neg (by omega), List.length_map] at this
noncomputable def grMiddles : List TV → Option TV
  | [s] => match rowL unRds s with
    | some l => if 1 ≤ l.length ∧ l.length ≤ 8 ∧ mksOk (l.map mid) = true then some (.sl ((l.map mid).flatMap Mk.cs) l.length false) else none
    | none => none
  | _ => none
theorem grMiddles_ok : ∀ xs r, grMiddles xs = some r → PCalls Try.prog 51 xs r := by
  intro xs r h
  unfold grMiddles at h
  split at h
  · split at h
    · rename_i l hl
      have hl := rowL_some (un := unRds) rfl (@unRds_some) hl
      split at h
      · rename_i hc; cases h; exact rMiddles_d hl hc.1 hc.2.1 hc.2.2
      · cases h
    · cases h
  · cases h
attribute [go_sem] grMiddles
noncomputable def spR1 : Pm.Spec := ((spB3.one 19 grCheck).one 69 grReadings).one 51 grMiddles
@[go_sem] theorem spR1_p (f : FuncId) (xs : List TV) : spR1.p f xs = Pm.Spec.p (((spB3.one 19 grCheck).one 69 grReadings).one 51 grMiddles) f xs := rfl
@[go_sem] theorem spR1_h (f : FuncId) (ps : List PV) (hl : List PO) : spR1.h f ps hl = Pm.Spec.h (((spB3.one 19 grCheck).one 69 grReadings).one 51 grMiddles) f ps hl := rfl
@[go_sem] theorem spR1_fz (f : FuncId) : spR1.fz f = Pm.Spec.fz (((spB3.one 19 grCheck).one 69 grReadings).one 51 grMiddles) f := rfl
@[go_sem] theorem spR1_fr (f : FuncId) : spR1.fr f = Pm.Spec.fr (((spB3.one 19 grCheck).one 69 grReadings).one 51 grMiddles) f := rfl
@[go_sem] theorem spR1_mu (t : TypeId) : spR1.mu t = Pm.Spec.mu (((spB3.one 19 grCheck).one 69 grReadings).one 51 grMiddles) t := rfl
theorem spR1_ok : SpecOk Try.prog spR1 := Spec.one_ok grMiddles_ok (Spec.one_ok grReadings_ok (Spec.one_ok grCheck_ok spB3_ok))
end Go.Proofs.Ytgofljmnlfnlnaa

/- Part Ls. -/
namespace Go.Proofs.Ytgofljmnlfnlnaa
open Go.RowKit Go.Pm Go.Oc
set_option maxRecDepth 100000
set_option linter.unusedVariables false
set_option maxHeartbeats 1000000

theorem rAsked_c (v : Vial) {l : List Rd} {s : TV} (hs : IsRow Rd.cs s l) : PCalls Try.prog 49 [v.t, s] (.int .i64 (asked v l)) := by
  refine pcalls_by Try.mixes spR1_ok (fn := Try.f49) Try.func49 rfl (by kernel_rfl) (by show 2 ≤ _; decide) ?_
  rcases hs with ⟨rfl, rfl⟩ | ⟨full, rfl⟩
  · cases hv : v.ok with
    | false => simp (decide := true) (maxSteps := 4000000) only [go_sem, Nat.reduceAdd, Nat.reduceSub, Nat.reduceMul, Nat.reduceDiv, Nat.reduceMod, Nat.reduceLT, Nat.reduceLeDiff, Nat.reduceEqDiff, Nat.reduceBEq, Nat.reduceBNe, Nat.reduceGT, Int.reduceAdd, Int.reduceSub, Int.reduceMul, Int.reduceNeg, Int.reduceLT, Int.reduceLE, Int.reduceEq, Int.reduceNe, Int.reduceBEq, Int.reduceBNe, Int.reduceToNat, Int.reduceGT, Int.reduceGE, ↓reduceIte, decide_true, decide_false, Try.f49, Vial.t, Vial.cs, hv, asked]
    | true => simp (decide := true) (maxSteps := 4000000) only [go_sem, Nat.reduceAdd, Nat.reduceSub, Nat.reduceMul, Nat.reduceDiv, Nat.reduceMod, Nat.reduceLT, Nat.reduceLeDiff, Nat.reduceEqDiff, Nat.reduceBEq, Nat.reduceBNe, Nat.reduceGT, Int.reduceAdd, Int.reduceSub, Int.reduceMul, Int.reduceNeg, Int.reduceLT, Int.reduceLE, Int.reduceEq, Int.reduceNe, Int.reduceBEq, Int.reduceBNe, Int.reduceToNat, Int.reduceGT, Int.reduceGE, ↓reduceIte, decide_true, decide_false, Try.f49, Vial.t, Vial.cs, hv, asked, rdsOk, inB, unRds]
  · cases hv : v.ok with
    | false => simp (decide := true) (maxSteps := 4000000) only [go_sem, Nat.reduceAdd, Nat.reduceSub, Nat.reduceMul, Nat.reduceDiv, Nat.reduceMod, Nat.reduceLT, Nat.reduceLeDiff, Nat.reduceEqDiff, Nat.reduceBEq, Nat.reduceBNe, Nat.reduceGT, Int.reduceAdd, Int.reduceSub, Int.reduceMul, Int.reduceNeg, Int.reduceLT, Int.reduceLE, Int.reduceEq, Int.reduceNe, Int.reduceBEq, Int.reduceBNe, Int.reduceToNat, Int.reduceGT, Int.reduceGE, ↓reduceIte, decide_true, decide_false, Try.f49, Vial.t, Vial.cs, hv, asked]
    | true => cases hr : rdsOk v l <;> simp (decide := true) (maxSteps := 4000000) only [go_sem, Nat.reduceAdd, Nat.reduceSub, Nat.reduceMul, Nat.reduceDiv, Nat.reduceMod, Nat.reduceLT, Nat.reduceLeDiff, Nat.reduceEqDiff, Nat.reduceBEq, Nat.reduceBNe, Nat.reduceGT, Int.reduceAdd, Int.reduceSub, Int.reduceMul, Int.reduceNeg, Int.reduceLT, Int.reduceLE, Int.reduceEq, Int.reduceNe, Int.reduceBEq, Int.reduceBNe, Int.reduceToNat, Int.reduceGT, Int.reduceGE, ↓reduceIte, decide_true, decide_false, Try.f49, Vial.t, Vial.cs, hv, hr, asked]
noncomputable def grAsked : List TV → Option TV
  | [.agg [.int .i64 m, .int .i64 a, .int .i64 b, .int .i64 c, .int .i64 d, .int .i64 e, .int .i64 f, .int .i64 g], s] => match rowL unRds s with
    | some l => if True then some (.int .i64 (asked ⟨m, a, b, c, d, e, f, g⟩ l)) else none
    | none => none
  | _ => none
theorem grAsked_ok : ∀ xs r, grAsked xs = some r → PCalls Try.prog 49 xs r := by
  intro xs r h
  unfold grAsked at h
  split at h
  · split at h
    · rename_i l hl
      have hl := rowL_some (un := unRds) rfl (@unRds_some) hl
      split at h
      · rename_i hc; cases h; exact rAsked_c ⟨_, _, _, _, _, _, _, _⟩ hl
      · cases h
    · cases h
  · cases h
attribute [go_sem] grAsked
theorem rWithin_c (v : Vial) (l : List Mk) (full : Bool) (z : Int) (hv : v.ok = true) (hm : mksOk l = true) (hz : 0 ≤ z ∧ z ≤ 400) (hl : l.length ≤ 100) :
    PCalls Try.prog 50 [v.t, .sl (l.flatMap Mk.cs) l.length full, .int .i64 z] (.tup [.int .i64 (withinS v.wr l z).lo, .int .i64 (withinS v.wr l z).hi]) := by
  refine pcalls_by Try.mixes noSpec_ok (fn := Try.f50) Try.func50 rfl (by kernel_rfl) (by show 3 ≤ _; decide) ?_
  simp (decide := true) (maxSteps := 4000000) only [go_sem, Nat.reduceAdd, Nat.reduceSub, Nat.reduceMul, Nat.reduceDiv, Nat.reduceMod, Nat.reduceLT, Nat.reduceLeDiff, Nat.reduceEqDiff, Nat.reduceBEq, Nat.reduceBNe, Nat.reduceGT, Int.reduceAdd, Int.reduceSub, Int.reduceMul, Int.reduceNeg, Int.reduceLT, Int.reduceLE, Int.reduceEq, Int.reduceNe, Int.reduceBEq, Int.reduceBNe, Int.reduceToNat, Int.reduceGT, Int.reduceGE, ↓reduceIte, decide_true, decide_false, Try.f50, Vial.t, Vial.cs]
  refine pwpC_loop (A := { k : Nat // k ≤ l.length }) (fun k => { env := [(10, .t (.int .i64 k.1)), (9, .t (.int .i64 (withinS v.wr (l.take k.1) z).hi)), (8, .t (.int .i64 (withinS v.wr (l.take k.1) z).lo)), (1, .t (.sl (l.flatMap Mk.cs) l.length full)), (2, .t (.int .i64 z)), (3, .ptr 0 0)], heap := [.box (v.cs.map .t)] }) (fun k => l.length - k.1) ⟨0, by omega⟩ ?_ (fun k => by rfl) fun ⟨k, hk⟩ => ?_
  · simp (decide := true) (maxSteps := 4000000) only [go_sem, Nat.reduceAdd, Nat.reduceSub, Nat.reduceMul, Nat.reduceDiv, Nat.reduceMod, Nat.reduceLT, Nat.reduceLeDiff, Nat.reduceEqDiff, Nat.reduceBEq, Nat.reduceBNe, Nat.reduceGT, Int.reduceAdd, Int.reduceSub, Int.reduceMul, Int.reduceNeg, Int.reduceLT, Int.reduceLE, Int.reduceEq, Int.reduceNe, Int.reduceBEq, Int.reduceBNe, Int.reduceToNat, Int.reduceGT, Int.reduceGE, ↓reduceIte, decide_true, decide_false, Vial.cs, withinS]
  · have hv' := Vial.ok_iff.1 hv
    by_cases hlt : (k : Int) < l.length
    · obtain ⟨x, hx⟩ := get_lt hlt
      have hd := flat_at Mk.cs (n := 2) (fun _ => rfl) hx
      have hx2 := inB_iff.1 (List.all_eq_true.1 hm x (List.mem_of_getElem? hx))
      have hs : withinS v.wr (l.take (k + 1)) z = inS v.wr z (withinS v.wr (l.take k) z) x := by unfold withinS; rw [take_snoc hx, List.foldl_append]; rfl
      have hk1 : IntKind.i64.wrap (k + 1) = ((k + 1 : Nat) : Int) := by rw [wrap_in (by omega) (by omega)]; omega
      obtain ⟨a, tu⟩ := x
      simp only at hx2
      cases tu with
      | false =>
        simp (decide := true) (maxSteps := 4000000) only [go_sem, Nat.reduceAdd, Nat.reduceSub, Nat.reduceMul, Nat.reduceDiv, Nat.reduceMod, Nat.reduceLT, Nat.reduceLeDiff, Nat.reduceEqDiff, Nat.reduceBEq, Nat.reduceBNe, Nat.reduceGT, Int.reduceAdd, Int.reduceSub, Int.reduceMul, Int.reduceNeg, Int.reduceLT, Int.reduceLE, Int.reduceEq, Int.reduceNe, Int.reduceBEq, Int.reduceBNe, Int.reduceToNat, Int.reduceGT, Int.reduceGE, ↓reduceIte, decide_true, decide_false, hlt, hd, Mk.cs, Vial.cs]
        refine ⟨⟨k + 1, by omega⟩, ?_⟩
        rw [hs]
        simp (decide := true) (maxSteps := 4000000) only [go_sem, Nat.reduceAdd, Nat.reduceSub, Nat.reduceMul, Nat.reduceDiv, Nat.reduceMod, Nat.reduceLT, Nat.reduceLeDiff, Nat.reduceEqDiff, Nat.reduceBEq, Nat.reduceBNe, Nat.reduceGT, Int.reduceAdd, Int.reduceSub, Int.reduceMul, Int.reduceNeg, Int.reduceLT, Int.reduceLE, Int.reduceEq, Int.reduceNe, Int.reduceBEq, Int.reduceBNe, Int.reduceToNat, Int.reduceGT, Int.reduceGE, ↓reduceIte, decide_true, decide_false, hk1, inS, outM]
        simp (disch := omega) only [wrap_in, and_self, true_and, and_true]
        omega
      | true =>
        simp (decide := true) (maxSteps := 4000000) only [go_sem, Nat.reduceAdd, Nat.reduceSub, Nat.reduceMul, Nat.reduceDiv, Nat.reduceMod, Nat.reduceLT, Nat.reduceLeDiff, Nat.reduceEqDiff, Nat.reduceBEq, Nat.reduceBNe, Nat.reduceGT, Int.reduceAdd, Int.reduceSub, Int.reduceMul, Int.reduceNeg, Int.reduceLT, Int.reduceLE, Int.reduceEq, Int.reduceNe, Int.reduceBEq, Int.reduceBNe, Int.reduceToNat, Int.reduceGT, Int.reduceGE, ↓reduceIte, decide_true, decide_false, hlt, hd, Mk.cs, Vial.cs]
        refine ⟨⟨k + 1, by omega⟩, ?_⟩
        rw [hs]
        simp (decide := true) (maxSteps := 4000000) only [go_sem, Nat.reduceAdd, Nat.reduceSub, Nat.reduceMul, Nat.reduceDiv, Nat.reduceMod, Nat.reduceLT, Nat.reduceLeDiff, Nat.reduceEqDiff, Nat.reduceBEq, Nat.reduceBNe, Nat.reduceGT, Int.reduceAdd, Int.reduceSub, Int.reduceMul, Int.reduceNeg, Int.reduceLT, Int.reduceLE, Int.reduceEq, Int.reduceNe, Int.reduceBEq, Int.reduceBNe, Int.reduceToNat, Int.reduceGT, Int.reduceGE, ↓reduceIte, decide_true, decide_false, hk1, inS, outM]
        simp (disch := omega) only [wrap_in, and_self, true_and, and_true]
        omega
    · have hkl : k = l.length := by omega
      simp (decide := true) (maxSteps := 4000000) only [go_sem, Nat.reduceAdd, Nat.reduceSub, Nat.reduceMul, Nat.reduceDiv, Nat.reduceMod, Nat.reduceLT, Nat.reduceLeDiff, Nat.reduceEqDiff, Nat.reduceBEq, Nat.reduceBNe, Nat.reduceGT, Int.reduceAdd, Int.reduceSub, Int.reduceMul, Int.reduceNeg, Int.reduceLT, Int.reduceLE, Int.reduceEq, Int.reduceNe, Int.reduceBEq, Int.reduceBNe, Int.reduceToNat, Int.reduceGT, Int.reduceGE, ↓reduceIte, decide_true, decide_false, hlt]
      rw [hkl, List.take_length]
      exact ⟨rfl, rfl⟩
noncomputable def grWithin : List TV → Option TV
  | [.agg [.int .i64 m, .int .i64 a, .int .i64 b, .int .i64 c, .int .i64 d, .int .i64 e, .int .i64 f, .int .i64 g], s, .int .i64 z] => match rowL unMks s with
    | some l => if 1 ≤ l.length ∧ Vial.ok ⟨m, a, b, c, d, e, f, g⟩ = true ∧ mksOk l = true ∧ (0 ≤ z ∧ z ≤ 400) ∧ l.length ≤ 100 then some (.tup [.int .i64 (withinS g l z).lo, .int .i64 (withinS g l z).hi]) else none
    | none => none
  | _ => none
theorem grWithin_ok : ∀ xs r, grWithin xs = some r → PCalls Try.prog 50 xs r := by
  intro xs r h
  unfold grWithin at h
  split at h
  · split at h
    · rename_i l hl
      have hl := rowL_some (un := unMks) rfl (@unMks_some) hl
      split at h
      · rename_i hc; cases h; exact (by obtain ⟨h0, h1, h2, h3, h4⟩ := hc; obtain ⟨full, rfl⟩ := hl.ne h0; exact rWithin_c ⟨_, _, _, _, _, _, _, _⟩ _ _ _ h1 h2 h3 h4)
      · cases h
    · cases h
  · cases h
attribute [go_sem] grWithin
noncomputable def spR2 : Pm.Spec := (spR1.one 49 grAsked).one 50 grWithin
@[go_sem] theorem spR2_p (f : FuncId) (xs : List TV) : spR2.p f xs = Pm.Spec.p ((spR1.one 49 grAsked).one 50 grWithin) f xs := rfl
@[go_sem] theorem spR2_h (f : FuncId) (ps : List PV) (hl : List PO) : spR2.h f ps hl = Pm.Spec.h ((spR1.one 49 grAsked).one 50 grWithin) f ps hl := rfl
@[go_sem] theorem spR2_fz (f : FuncId) : spR2.fz f = Pm.Spec.fz ((spR1.one 49 grAsked).one 50 grWithin) f := rfl
@[go_sem] theorem spR2_fr (f : FuncId) : spR2.fr f = Pm.Spec.fr ((spR1.one 49 grAsked).one 50 grWithin) f := rfl
@[go_sem] theorem spR2_mu (t : TypeId) : spR2.mu t = Pm.Spec.mu ((spR1.one 49 grAsked).one 50 grWithin) t := rfl
theorem spR2_ok : SpecOk Try.prog spR2 := Spec.one_ok grWithin_ok (Spec.one_ok grAsked_ok spR1_ok)
end Go.Proofs.Ytgofljmnlfnlnaa

/- Part Lt. -/
namespace Go.Proofs.Ytgofljmnlfnlnaa
open Go.RowKit Go.Pm Go.Oc
set_option maxRecDepth 100000
set_option linter.unusedVariables false
set_option maxHeartbeats 1000000

theorem rTilts_c (v : Vial) (l : List Mk) (full : Bool) (h1 : 1 ≤ l.length) (hv : v.ok = true) (hm : mksOk l = true) (hl : l.length ≤ 100) :
    PCalls Try.prog 55 [v.t, .sl (l.flatMap Mk.cs) l.length full] (tilts v l).t := by
  refine pcalls_by Try.mixes spR2_ok (fn := Try.f55) Try.func55 rfl (by kernel_rfl) (by show 2 ≤ _; decide) ?_
  simp (decide := true) (maxSteps := 4000000) only [go_sem, Nat.reduceAdd, Nat.reduceSub, Nat.reduceMul, Nat.reduceDiv, Nat.reduceMod, Nat.reduceLT, Nat.reduceLeDiff, Nat.reduceEqDiff, Nat.reduceBEq, Nat.reduceBNe, Nat.reduceGT, Int.reduceAdd, Int.reduceSub, Int.reduceMul, Int.reduceNeg, Int.reduceLT, Int.reduceLE, Int.reduceEq, Int.reduceNe, Int.reduceBEq, Int.reduceBNe, Int.reduceToNat, Int.reduceGT, Int.reduceGE, ↓reduceIte, decide_true, decide_false, Try.f55, Vial.t, Vial.cs]
  have hv' := Vial.ok_iff.1 hv
  refine pwpC_loop (A := { k : Nat // k ≤ (v.z1 - v.z0 + 1).toNat }) (fun k => { env := [(10, .t (.int .i64 (v.z0 + k.1))), (9, .t (.bool (tiltsTo v l k.1).is)), (8, .ptr 4 0), (7, .ptr 3 0), (5, .ptr 2 0), (4, .ptr 1 0), (2, .ptr 0 0), (1, .t (.sl (l.flatMap Mk.cs) l.length full))], heap := [.box (v.cs.map .t), .box [.t (.int .i64 0), .t (.int .i64 0)], .box [.t (.int .i64 0), .t (.int .i64 0)], .box ((tiltsTo v l k.1).tilt.cs.map .t), .box ((tiltsTo v l k.1).zero.cs.map .t)] }) (fun k => (v.z1 - v.z0 + 1).toNat - k.1) ⟨0, by omega⟩ ?_ (fun k => by rfl) fun ⟨k, hk⟩ => ?_
  · simp (decide := true) (maxSteps := 4000000) only [go_sem, Nat.reduceAdd, Nat.reduceSub, Nat.reduceMul, Nat.reduceDiv, Nat.reduceMod, Nat.reduceLT, Nat.reduceLeDiff, Nat.reduceEqDiff, Nat.reduceBEq, Nat.reduceBNe, Nat.reduceGT, Int.reduceAdd, Int.reduceSub, Int.reduceMul, Int.reduceNeg, Int.reduceLT, Int.reduceLE, Int.reduceEq, Int.reduceNe, Int.reduceBEq, Int.reduceBNe, Int.reduceToNat, Int.reduceGT, Int.reduceGE, ↓reduceIte, decide_true, decide_false, Vial.cs, tiltsTo_zero, Span.cs]
    omega
  · by_cases hlt : v.z0 + k ≤ v.z1
    · have hs := withinS_bound (w := v.wr) (z := v.z0 + k) (by omega) (by omega) (l := l) (s := ⟨-10000, 10000⟩) hm (by simp)
      have hwi : withinS v.wr l (v.z0 + k) = l.foldl (inS v.wr (v.z0 + k)) ⟨-10000, 10000⟩ := rfl
      rw [← hwi] at hs
      have hz : 0 ≤ v.z0 + (k : Int) ∧ v.z0 + (k : Int) ≤ 400 := by omega
      have hk1 : IntKind.i64.wrap (v.z0 + k + 1) = v.z0 + ((k + 1 : Nat) : Int) := by rw [wrap_in (by omega) (by omega)]; omega
      have p1 := mulB (a := (withinS v.wr l (v.z0 + k)).lo) (b := v.v0) (by omega) (by omega)
      have p2 := mulB (a := (withinS v.wr l (v.z0 + k)).lo) (b := v.v1) (by omega) (by omega)
      have p3 := mulB (a := (withinS v.wr l (v.z0 + k)).hi) (b := v.v0) (by omega) (by omega)
      have p4 := mulB (a := (withinS v.wr l (v.z0 + k)).hi) (b := v.v1) (by omega) (by omega)
      have w1 := wrap_in (n := (withinS v.wr l (v.z0 + k)).lo * v.v0) (by omega) (by omega)
      have w2 := wrap_in (n := (withinS v.wr l (v.z0 + k)).lo * v.v1) (by omega) (by omega)
      have w3 := wrap_in (n := (withinS v.wr l (v.z0 + k)).hi * v.v0) (by omega) (by omega)
      have w4 := wrap_in (n := (withinS v.wr l (v.z0 + k)).hi * v.v1) (by omega) (by omega)
      by_cases hin : (withinS v.wr l (v.z0 + k)).lo ≤ (withinS v.wr l (v.z0 + k)).hi
      · have hin' : ¬ (withinS v.wr l (v.z0 + k)).lo > (withinS v.wr l (v.z0 + k)).hi := by omega
        have hlm := least_most hv hin
        unfold leastP mostP at hlm
        simp (decide := true) (maxSteps := 4000000) only [go_sem, Nat.reduceAdd, Nat.reduceSub, Nat.reduceMul, Nat.reduceDiv, Nat.reduceMod, Nat.reduceLT, Nat.reduceLeDiff, Nat.reduceEqDiff, Nat.reduceBEq, Nat.reduceBNe, Nat.reduceGT, Int.reduceAdd, Int.reduceSub, Int.reduceMul, Int.reduceNeg, Int.reduceLT, Int.reduceLE, Int.reduceEq, Int.reduceNe, Int.reduceBEq, Int.reduceBNe, Int.reduceToNat, Int.reduceGT, Int.reduceGE, ↓reduceIte, decide_true, decide_false, hlt, Vial.cs, unMks, hv, h1, hm, hl, hz, hin', Span.cs, Span.t, w1, w2, w3, w4]
        refine ⟨⟨k + 1, by omega⟩, ?_⟩
        simp only [hk1, tiltsTo_in hin]
        cases his : (tiltsTo v l k).is with
        | false =>
          simp only [tiltStep, his, widerS, Span.cs, leastP, mostP]
          simp (decide := true) (maxSteps := 4000000) only [go_sem, Nat.reduceAdd, Nat.reduceSub, Nat.reduceMul, Nat.reduceDiv, Nat.reduceMod, Nat.reduceLT, Nat.reduceLeDiff, Nat.reduceEqDiff, Nat.reduceBEq, Nat.reduceBNe, Nat.reduceGT, Int.reduceAdd, Int.reduceSub, Int.reduceMul, Int.reduceNeg, Int.reduceLT, Int.reduceLE, Int.reduceEq, Int.reduceNe, Int.reduceBEq, Int.reduceBNe, Int.reduceToNat, Int.reduceGT, Int.reduceGE, ↓reduceIte, decide_true, decide_false]
          omega
        | true =>
          have hlow := tiltsTo_low his
          simp only [tiltStep, his, widerS, Span.cs, leastP, mostP]
          simp (decide := true) (maxSteps := 4000000) only [go_sem, Nat.reduceAdd, Nat.reduceSub, Nat.reduceMul, Nat.reduceDiv, Nat.reduceMod, Nat.reduceLT, Nat.reduceLeDiff, Nat.reduceEqDiff, Nat.reduceBEq, Nat.reduceBNe, Nat.reduceGT, Int.reduceAdd, Int.reduceSub, Int.reduceMul, Int.reduceNeg, Int.reduceLT, Int.reduceLE, Int.reduceEq, Int.reduceNe, Int.reduceBEq, Int.reduceBNe, Int.reduceToNat, Int.reduceGT, Int.reduceGE, ↓reduceIte, decide_true, decide_false]
          omega
      · have hin' : (withinS v.wr l (v.z0 + k)).lo > (withinS v.wr l (v.z0 + k)).hi := by omega
        simp (decide := true) (maxSteps := 4000000) only [go_sem, Nat.reduceAdd, Nat.reduceSub, Nat.reduceMul, Nat.reduceDiv, Nat.reduceMod, Nat.reduceLT, Nat.reduceLeDiff, Nat.reduceEqDiff, Nat.reduceBEq, Nat.reduceBNe, Nat.reduceGT, Int.reduceAdd, Int.reduceSub, Int.reduceMul, Int.reduceNeg, Int.reduceLT, Int.reduceLE, Int.reduceEq, Int.reduceNe, Int.reduceBEq, Int.reduceBNe, Int.reduceToNat, Int.reduceGT, Int.reduceGE, ↓reduceIte, decide_true, decide_false, hlt, Vial.cs, unMks, hv, h1, hm, hl, hz, hin', Span.cs, Span.t]
        refine ⟨⟨k + 1, by omega⟩, ?_⟩
        simp only [hk1, tiltsTo_out hin]
        simp (decide := true) (maxSteps := 4000000) only [go_sem, Nat.reduceAdd, Nat.reduceSub, Nat.reduceMul, Nat.reduceDiv, Nat.reduceMod, Nat.reduceLT, Nat.reduceLeDiff, Nat.reduceEqDiff, Nat.reduceBEq, Nat.reduceBNe, Nat.reduceGT, Int.reduceAdd, Int.reduceSub, Int.reduceMul, Int.reduceNeg, Int.reduceLT, Int.reduceLE, Int.reduceEq, Int.reduceNe, Int.reduceBEq, Int.reduceBNe, Int.reduceToNat, Int.reduceGT, Int.reduceGE, ↓reduceIte, decide_true, decide_false, Span.cs]
        omega
    · simp (decide := true) (maxSteps := 4000000) only [go_sem, Nat.reduceAdd, Nat.reduceSub, Nat.reduceMul, Nat.reduceDiv, Nat.reduceMod, Nat.reduceLT, Nat.reduceLeDiff, Nat.reduceEqDiff, Nat.reduceBEq, Nat.reduceBNe, Nat.reduceGT, Int.reduceAdd, Int.reduceSub, Int.reduceMul, Int.reduceNeg, Int.reduceLT, Int.reduceLE, Int.reduceEq, Int.reduceNe, Int.reduceBEq, Int.reduceBNe, Int.reduceToNat, Int.reduceGT, Int.reduceGE, ↓reduceIte, decide_true, decide_false, hlt, Vial.cs, Span.cs, TZ.t, Span.t]
      have hkl : k = (v.z1 - v.z0 + 1).toNat := by omega
      rw [tilts_to, ← hkl]
      simp (decide := true) (maxSteps := 4000000) only [go_sem, Nat.reduceAdd, Nat.reduceSub, Nat.reduceMul, Nat.reduceDiv, Nat.reduceMod, Nat.reduceLT, Nat.reduceLeDiff, Nat.reduceEqDiff, Nat.reduceBEq, Nat.reduceBNe, Nat.reduceGT, Int.reduceAdd, Int.reduceSub, Int.reduceMul, Int.reduceNeg, Int.reduceLT, Int.reduceLE, Int.reduceEq, Int.reduceNe, Int.reduceBEq, Int.reduceBNe, Int.reduceToNat, Int.reduceGT, Int.reduceGE, ↓reduceIte, decide_true, decide_false]
noncomputable def grTilts : List TV → Option TV
  | [.agg [.int .i64 m, .int .i64 a, .int .i64 b, .int .i64 c, .int .i64 d, .int .i64 e, .int .i64 f, .int .i64 g], s] => match rowL unMks s with
    | some l => if 1 ≤ l.length ∧ Vial.ok ⟨m, a, b, c, d, e, f, g⟩ = true ∧ mksOk l = true ∧ l.length ≤ 100 then some ((tilts ⟨m, a, b, c, d, e, f, g⟩ l).t) else none
    | none => none
  | _ => none
theorem grTilts_ok : ∀ xs r, grTilts xs = some r → PCalls Try.prog 55 xs r := by
  intro xs r h
  unfold grTilts at h
  split at h
  · split at h
    · rename_i l hl
      have hl := rowL_some (un := unMks) rfl (@unMks_some) hl
      split at h
      · rename_i hc; cases h; exact (by obtain ⟨h0, h1, h2, h3⟩ := hc; obtain ⟨full, rfl⟩ := hl.ne h0; exact rTilts_c ⟨_, _, _, _, _, _, _, _⟩ _ _ h0 h1 h2 h3)
      · cases h
    · cases h
  · cases h
attribute [go_sem] grTilts
noncomputable def spR3 : Pm.Spec := spR2.one 55 grTilts
@[go_sem] theorem spR3_p (f : FuncId) (xs : List TV) : spR3.p f xs = Pm.Spec.p (spR2.one 55 grTilts) f xs := rfl
@[go_sem] theorem spR3_h (f : FuncId) (ps : List PV) (hl : List PO) : spR3.h f ps hl = Pm.Spec.h (spR2.one 55 grTilts) f ps hl := rfl
@[go_sem] theorem spR3_fz (f : FuncId) : spR3.fz f = Pm.Spec.fz (spR2.one 55 grTilts) f := rfl
@[go_sem] theorem spR3_fr (f : FuncId) : spR3.fr f = Pm.Spec.fr (spR2.one 55 grTilts) f := rfl
@[go_sem] theorem spR3_mu (t : TypeId) : spR3.mu t = Pm.Spec.mu (spR2.one 55 grTilts) t := rfl
theorem spR3_ok : SpecOk Try.prog spR3 := Spec.one_ok grTilts_ok spR2_ok

theorem rTilt_c (v : Vial) {l : List Rd} {s : TV} (hs : IsRow Rd.cs s l) : PCalls Try.prog 21 [v.t, s] (tiltR v l).t := by
  refine pcalls_by Try.mixes spR3_ok (fn := Try.f21) Try.func21 rfl (by kernel_rfl) (by show 2 ≤ _; decide) ?_
  unfold tiltR
  by_cases hk : asked v l = 0
  · obtain ⟨hv, hr⟩ := asked_zero hk
    have hm := mksOk_mid hv hr
    have h8 := rdsOk_len hr
    have h100 : l.length ≤ 100 := by omega
    obtain ⟨full, rfl⟩ := hs.ne h8.1
    cases hi : (tilts v (l.map mid)).is <;> simp (decide := true) (maxSteps := 4000000) only [go_sem, Nat.reduceAdd, Nat.reduceSub, Nat.reduceMul, Nat.reduceDiv, Nat.reduceMod, Nat.reduceLT, Nat.reduceLeDiff, Nat.reduceEqDiff, Nat.reduceBEq, Nat.reduceBNe, Nat.reduceGT, Int.reduceAdd, Int.reduceSub, Int.reduceMul, Int.reduceNeg, Int.reduceLT, Int.reduceLE, Int.reduceEq, Int.reduceNe, Int.reduceBEq, Int.reduceBNe, Int.reduceToNat, Int.reduceGT, Int.reduceGE, ↓reduceIte, decide_true, decide_false, Try.f21, Vial.t, Vial.cs, hk, hv, h8.1, h8.2, h100, hm, List.length_map, unMks, TZ.t, Span.t, Span.cs, hi, TE.t]
  · have hk' : (asked v l != 0) = true := by simpa using hk
    rcases hs with ⟨rfl, rfl⟩ | ⟨full, rfl⟩ <;> simp (decide := true) (maxSteps := 4000000) only [go_sem, Nat.reduceAdd, Nat.reduceSub, Nat.reduceMul, Nat.reduceDiv, Nat.reduceMod, Nat.reduceLT, Nat.reduceLeDiff, Nat.reduceEqDiff, Nat.reduceBEq, Nat.reduceBNe, Nat.reduceGT, Int.reduceAdd, Int.reduceSub, Int.reduceMul, Int.reduceNeg, Int.reduceLT, Int.reduceLE, Int.reduceEq, Int.reduceNe, Int.reduceBEq, Int.reduceBNe, Int.reduceToNat, Int.reduceGT, Int.reduceGE, ↓reduceIte, decide_true, decide_false, Try.f21, Vial.t, Vial.cs, unRds, hk, hk', TE.t, Span.t, Span.cs]
end Go.Proofs.Ytgofljmnlfnlnaa

/- Part Lo. -/
namespace Go.Proofs.Ytgofljmnlfnlnaa
open Go.RowKit Go.Pm Go.Oc
set_option maxRecDepth 100000
set_option linter.unusedVariables false
set_option maxHeartbeats 4000000

theorem rCan_c (v : Vial) {l : List Rd} {s : TV} (hs : IsRow Rd.cs s l) (tv tz tt : Int) : PCalls Try.prog 17 [v.t, s, .agg [.int .i64 tv, .int .i64 tz, .int .i64 tt]] (.tup [.bool (canP v l tv tz tt).1, .int .i64 (canP v l tv tz tt).2]) := by
  refine pcalls_by Try.mixes spR3_ok (fn := Try.f17) Try.func17 rfl (by kernel_rfl) (by show 3 ≤ _; decide) ?_
  unfold canP
  by_cases hk : asked v l = 0
  · obtain ⟨hv, hr⟩ := asked_zero hk
    have hv' := Vial.ok_iff.1 hv
    have hm := mksOk_mid hv hr
    have h8 := rdsOk_len hr
    have h100 : l.length ≤ 100 := by omega
    obtain ⟨full, rfl⟩ := hs.ne h8.1
    cases h1 : inB tv v.v0 v.v1 with
    | false => simp (decide := true) (maxSteps := 4000000) only [go_sem, Nat.reduceAdd, Nat.reduceSub, Nat.reduceMul, Nat.reduceDiv, Nat.reduceMod, Nat.reduceLT, Nat.reduceLeDiff, Nat.reduceEqDiff, Nat.reduceBEq, Nat.reduceBNe, Nat.reduceGT, Int.reduceAdd, Int.reduceSub, Int.reduceMul, Int.reduceNeg, Int.reduceLT, Int.reduceLE, Int.reduceEq, Int.reduceNe, Int.reduceBEq, Int.reduceBNe, Int.reduceToNat, Int.reduceGT, Int.reduceGE, ↓reduceIte, decide_true, decide_false, eq_self, Nat.mul_one, Nat.zero_mul, Nat.one_mul, Int.le_refl, Nat.le_refl, Int.cast_ofNat_Int, Try.f17, Vial.t, Vial.cs, hk, h1]
    | true =>
      cases h2 : inB tz v.z0 v.z1 with
      | false => simp (decide := true) (maxSteps := 4000000) only [go_sem, Nat.reduceAdd, Nat.reduceSub, Nat.reduceMul, Nat.reduceDiv, Nat.reduceMod, Nat.reduceLT, Nat.reduceLeDiff, Nat.reduceEqDiff, Nat.reduceBEq, Nat.reduceBNe, Nat.reduceGT, Int.reduceAdd, Int.reduceSub, Int.reduceMul, Int.reduceNeg, Int.reduceLT, Int.reduceLE, Int.reduceEq, Int.reduceNe, Int.reduceBEq, Int.reduceBNe, Int.reduceToNat, Int.reduceGT, Int.reduceGE, ↓reduceIte, decide_true, decide_false, eq_self, Nat.mul_one, Nat.zero_mul, Nat.one_mul, Int.le_refl, Nat.le_refl, Int.cast_ofNat_Int, Try.f17, Vial.t, Vial.cs, hk, h1, h2]
      | true =>
        have h1' := inB_iff.1 h1
        have h2' := inB_iff.1 h2
        have hz : 0 ≤ tz ∧ tz ≤ 400 := by omega
        have hml : (l.map mid).length = l.length := List.length_map _
        have hb := withinS_bound (w := v.wr) (z := tz) (by omega) hz (l := l.map mid) (s := ⟨-10000, 10000⟩) hm (by simp)
        rw [show (l.map mid).foldl (inS v.wr tz) ⟨-10000, 10000⟩ = withinS v.wr (l.map mid) tz from rfl] at hb
        have p1 := mulB (a := (withinS v.wr (l.map mid) tz).lo) (b := tv) (by omega) (by omega)
        have p2 := mulB (a := (withinS v.wr (l.map mid) tz).hi) (b := tv) (by omega) (by omega)
        have w1 := wrap_in (n := (withinS v.wr (l.map mid) tz).lo * tv) (by omega) (by omega)
        have w2 := wrap_in (n := (withinS v.wr (l.map mid) tz).hi * tv) (by omega) (by omega)
        have hc := within_can hv hm (by omega) h1'.1 h1'.2 h2'.1 h2'.2 (tt := tt)
        simp (decide := true) (maxSteps := 4000000) only [go_sem, Nat.reduceAdd, Nat.reduceSub, Nat.reduceMul, Nat.reduceDiv, Nat.reduceMod, Nat.reduceLT, Nat.reduceLeDiff, Nat.reduceEqDiff, Nat.reduceBEq, Nat.reduceBNe, Nat.reduceGT, Int.reduceAdd, Int.reduceSub, Int.reduceMul, Int.reduceNeg, Int.reduceLT, Int.reduceLE, Int.reduceEq, Int.reduceNe, Int.reduceBEq, Int.reduceBNe, Int.reduceToNat, Int.reduceGT, Int.reduceGE, ↓reduceIte, decide_true, decide_false, eq_self, Nat.mul_one, Nat.zero_mul, Nat.one_mul, Int.le_refl, Nat.le_refl, Int.cast_ofNat_Int, Try.f17, Vial.t, Vial.cs, hk, h1, h2, hv, h8.1, h8.2, h100, hm, hz, List.length_map, w1, w2, hc]
  · have hk' : (asked v l != 0) = true := by simpa using hk
    rcases hs with ⟨rfl, rfl⟩ | ⟨full, rfl⟩ <;> simp (decide := true) (maxSteps := 4000000) only [go_sem, Nat.reduceAdd, Nat.reduceSub, Nat.reduceMul, Nat.reduceDiv, Nat.reduceMod, Nat.reduceLT, Nat.reduceLeDiff, Nat.reduceEqDiff, Nat.reduceBEq, Nat.reduceBNe, Nat.reduceGT, Int.reduceAdd, Int.reduceSub, Int.reduceMul, Int.reduceNeg, Int.reduceLT, Int.reduceLE, Int.reduceEq, Int.reduceNe, Int.reduceBEq, Int.reduceBNe, Int.reduceToNat, Int.reduceGT, Int.reduceGE, ↓reduceIte, decide_true, decide_false, eq_self, Nat.mul_one, Nat.zero_mul, Nat.one_mul, Int.le_refl, Nat.le_refl, Int.cast_ofNat_Int, Try.f17, Vial.t, Vial.cs, unRds, hk, hk']
noncomputable def grCan : List TV → Option TV
  | [.agg [.int .i64 m, .int .i64 a, .int .i64 b, .int .i64 c, .int .i64 d, .int .i64 e, .int .i64 f, .int .i64 g], s, .agg [.int .i64 tv, .int .i64 tz, .int .i64 tt]] => match rowL unRds s with
    | some l => if True then some (.tup [.bool (canP ⟨m, a, b, c, d, e, f, g⟩ l tv tz tt).1, .int .i64 (canP ⟨m, a, b, c, d, e, f, g⟩ l tv tz tt).2]) else none
    | none => none
  | _ => none
theorem grCan_ok : ∀ xs r, grCan xs = some r → PCalls Try.prog 17 xs r := by
  intro xs r h
  unfold grCan at h
  split at h
  · split at h
    · rename_i l hl
      have hl := rowL_some (un := unRds) rfl (@unRds_some) hl
      split at h
      · rename_i hc; cases h; exact rCan_c ⟨_, _, _, _, _, _, _, _⟩ hl _ _ _
      · cases h
    · cases h
  · cases h
attribute [go_sem] grCan
noncomputable def grTilt : List TV → Option TV
  | [.agg [.int .i64 m, .int .i64 a, .int .i64 b, .int .i64 c, .int .i64 d, .int .i64 e, .int .i64 f, .int .i64 g], s] => match rowL unRds s with
    | some l => if True then some ((tiltR ⟨m, a, b, c, d, e, f, g⟩ l).t) else none
    | none => none
  | _ => none
theorem grTilt_ok : ∀ xs r, grTilt xs = some r → PCalls Try.prog 21 xs r := by
  intro xs r h
  unfold grTilt at h
  split at h
  · split at h
    · rename_i l hl
      have hl := rowL_some (un := unRds) rfl (@unRds_some) hl
      split at h
      · rename_i hc; cases h; exact rTilt_c ⟨_, _, _, _, _, _, _, _⟩ hl
      · cases h
    · cases h
  · cases h
attribute [go_sem] grTilt
noncomputable def spO1 : Pm.Spec := ((spK1.one 19 grCheck).one 17 grCan).one 21 grTilt
@[go_sem] theorem spO1_p (f : FuncId) (xs : List TV) : spO1.p f xs = Pm.Spec.p (((spK1.one 19 grCheck).one 17 grCan).one 21 grTilt) f xs := rfl
@[go_sem] theorem spO1_h (f : FuncId) (ps : List PV) (hl : List PO) : spO1.h f ps hl = Pm.Spec.h (((spK1.one 19 grCheck).one 17 grCan).one 21 grTilt) f ps hl := rfl
@[go_sem] theorem spO1_fz (f : FuncId) : spO1.fz f = Pm.Spec.fz (((spK1.one 19 grCheck).one 17 grCan).one 21 grTilt) f := rfl
@[go_sem] theorem spO1_fr (f : FuncId) : spO1.fr f = Pm.Spec.fr (((spK1.one 19 grCheck).one 17 grCan).one 21 grTilt) f := rfl
@[go_sem] theorem spO1_mu (t : TypeId) : spO1.mu t = Pm.Spec.mu (((spK1.one 19 grCheck).one 17 grCan).one 21 grTilt) t := rfl
theorem spO1_ok : SpecOk Try.prog spO1 := Spec.one_ok grTilt_ok (Spec.one_ok grCan_ok (Spec.one_ok grCheck_ok spK1_ok))
theorem LevelTilts_c (v : Vial) {l : List Rd} {s : TV} (hs : IsRow Rd.cs s l) (hl : l.length ≤ 5864062014806) (tv tz tt : Int) : PCalls Try.prog 3 [v.t, s, .agg [.int .i64 tv, .int .i64 tz, .int .i64 tt]] (.bool true) := by
  refine pcalls_by Try.mixes spO1_ok (fn := Try.f3) Try.func3 rfl (by kernel_rfl) (by show 3 ≤ _; decide) ?_
  rcases hs with ⟨rfl, rfl⟩ | ⟨full, rfl⟩ <;> simp (decide := true) (maxSteps := 4000000) only [go_sem, Nat.reduceAdd, Nat.reduceSub, Nat.reduceMul, Nat.reduceDiv, Nat.reduceMod, Nat.reduceLT, Nat.reduceLeDiff, Nat.reduceEqDiff, Nat.reduceBEq, Nat.reduceBNe, Nat.reduceGT, Int.reduceAdd, Int.reduceSub, Int.reduceMul, Int.reduceNeg, Int.reduceLT, Int.reduceLE, Int.reduceEq, Int.reduceNe, Int.reduceBEq, Int.reduceBNe, Int.reduceToNat, Int.reduceGT, Int.reduceGE, ↓reduceIte, decide_true, decide_false, eq_self, Nat.mul_one, Nat.zero_mul, Nat.one_mul, Int.le_refl, Nat.le_refl, Int.cast_ofNat_Int, Try.f3, Vial.t, Vial.cs, unRds, hl, beq_self_eq_true, bne_self_eq_false, TE.t, Span.t, Span.cs, List.length_nil]
theorem can_no {v : Vial} {l : List Rd} {tv tz tt : Int} (h : (canP v l tv tz tt).2 ≠ 0) : (canP v l tv tz tt).1 = false := by
  unfold canP at h ⊢
  split <;> rename_i h1
  · rw [if_pos h1] at h
    split <;> rename_i h2
    · rw [if_pos h2] at h; exact absurd rfl h
    · rfl
  · rfl
theorem tilt_e (v : Vial) (l : List Rd) : (tiltR v l).e = 0 ∨ (tiltR v l).tilt = ⟨0, 0⟩ ∧ (tiltR v l).zero = ⟨0, 0⟩ := by
  unfold tiltR
  split
  · split
    · exact .inl rfl
    · exact .inr ⟨rfl, rfl⟩
  · exact .inr ⟨rfl, rfl⟩
/-- What Can and Tilt hand back together. -/
theorem can_tilt (v : Vial) (l : List Rd) (tv tz tt : Int) :
    ((canP v l tv tz tt).2 ≠ 0 ∧ (canP v l tv tz tt).1 = false ∧ ((tiltR v l).e = (canP v l tv tz tt).2 ∨ (canP v l tv tz tt).2 = 32)) ∨
    ((canP v l tv tz tt).2 = 0 ∧ (tiltR v l).e = 33 ∧ (canP v l tv tz tt).1 = false ∧ (tiltR v l).tilt = ⟨0, 0⟩ ∧ (tiltR v l).zero = ⟨0, 0⟩) ∨
    ((canP v l tv tz tt).2 = 0 ∧ (tiltR v l).e = 0 ∧ ((canP v l tv tz tt).1 = true → ((tiltR v l).tilt.lo ≤ tt ∧ tt ≤ (tiltR v l).tilt.hi) ∧ (tiltR v l).zero.lo ≤ tz ∧ tz ≤ (tiltR v l).zero.hi)) := by
  unfold canP tiltR
  by_cases hk : asked v l = 0
  · obtain ⟨hv, hr⟩ := asked_zero hk
    have hm := mksOk_mid hv hr
    have h8 := rdsOk_len hr
    rw [if_pos hk, if_pos hk]
    by_cases h1 : inB tv v.v0 v.v1 = true ∧ inB tz v.z0 v.z1 = true
    · rw [if_pos h1]
      have hb := fun hc => bubble hv hm (by rw [List.length_map]; omega) (inB_iff.1 h1.1).1 (inB_iff.1 h1.1).2 (inB_iff.1 h1.2).1 (inB_iff.1 h1.2).2 (tt := tt) hc
      cases hi : (tilts v (l.map mid)).is with
      | false =>
        refine .inr (.inl ⟨rfl, rfl, ?_, rfl, rfl⟩)
        cases hc : canB v (l.map mid) tv tz tt with
        | false => rfl
        | true => rw [(hb hc).1] at hi; cases hi
      | true => exact .inr (.inr ⟨rfl, rfl, fun hc => ⟨⟨(hb hc).2.1, (hb hc).2.2.1⟩, (hb hc).2.2.2⟩⟩)
    · rw [if_neg h1]
      exact .inl ⟨by simp, rfl, .inr rfl⟩
  · rw [if_neg hk, if_neg hk]
    exact .inl ⟨hk, rfl, .inl rfl⟩
theorem LevelBubble_c (v : Vial) {l : List Rd} {s : TV} (hs : IsRow Rd.cs s l) (hl : l.length ≤ 5864062014806) (tv tz tt : Int) : PCalls Try.prog 8 [v.t, s, .agg [.int .i64 tv, .int .i64 tz, .int .i64 tt]] (.bool true) := by
  have key := can_tilt v l tv tz tt
  have hc : ∃ c, canP v l tv tz tt = c := ⟨_, rfl⟩
  have ht : ∃ t, tiltR v l = t := ⟨_, rfl⟩
  obtain ⟨⟨cb, ce⟩, hc⟩ := hc
  obtain ⟨⟨⟨t0, t1⟩, ⟨z0, z1⟩, te⟩, ht⟩ := ht
  rw [hc, ht] at key
  simp only [Span.mk.injEq] at key
  refine pcalls_by Try.mixes spO1_ok (fn := Try.f8) Try.func8 rfl (by kernel_rfl) (by show 3 ≤ _; decide) ?_
  rcases key with ⟨h1, rfl, h2⟩ | ⟨rfl, rfl, rfl, ⟨rfl, rfl⟩, rfl, rfl⟩ | ⟨rfl, rfl, h⟩
  · have h1' : (ce != 0) = true := by simpa using h1
    rcases h2 with rfl | rfl
    · rcases hs with ⟨rfl, rfl⟩ | ⟨full, rfl⟩ <;> simp (decide := true) (maxSteps := 4000000) only [go_sem, Nat.reduceAdd, Nat.reduceSub, Nat.reduceMul, Nat.reduceDiv, Nat.reduceMod, Nat.reduceLT, Nat.reduceLeDiff, Nat.reduceEqDiff, Nat.reduceBEq, Nat.reduceBNe, Nat.reduceGT, Int.reduceAdd, Int.reduceSub, Int.reduceMul, Int.reduceNeg, Int.reduceLT, Int.reduceLE, Int.reduceEq, Int.reduceNe, Int.reduceBEq, Int.reduceBNe, Int.reduceToNat, Int.reduceGT, Int.reduceGE, ↓reduceIte, decide_true, decide_false, eq_self, Nat.mul_one, Nat.zero_mul, Nat.one_mul, Int.le_refl, Nat.le_refl, Int.cast_ofNat_Int, Try.f8, Vial.t, Vial.cs, unRds, hl, hc, ht, h1', TE.t, Span.t, Span.cs, List.length_nil, beq_self_eq_true, bne_self_eq_false]
    · cases hte : (te == 32) <;> rcases hs with ⟨rfl, rfl⟩ | ⟨full, rfl⟩ <;> simp (decide := true) (maxSteps := 4000000) only [go_sem, Nat.reduceAdd, Nat.reduceSub, Nat.reduceMul, Nat.reduceDiv, Nat.reduceMod, Nat.reduceLT, Nat.reduceLeDiff, Nat.reduceEqDiff, Nat.reduceBEq, Nat.reduceBNe, Nat.reduceGT, Int.reduceAdd, Int.reduceSub, Int.reduceMul, Int.reduceNeg, Int.reduceLT, Int.reduceLE, Int.reduceEq, Int.reduceNe, Int.reduceBEq, Int.reduceBNe, Int.reduceToNat, Int.reduceGT, Int.reduceGE, ↓reduceIte, decide_true, decide_false, eq_self, Nat.mul_one, Nat.zero_mul, Nat.one_mul, Int.le_refl, Nat.le_refl, Int.cast_ofNat_Int, Try.f8, Vial.t, Vial.cs, unRds, hl, hc, ht, h1', TE.t, Span.t, Span.cs, List.length_nil, beq_self_eq_true, bne_self_eq_false, hte]
  · rcases hs with ⟨rfl, rfl⟩ | ⟨full, rfl⟩ <;> simp (decide := true) (maxSteps := 4000000) only [go_sem, Nat.reduceAdd, Nat.reduceSub, Nat.reduceMul, Nat.reduceDiv, Nat.reduceMod, Nat.reduceLT, Nat.reduceLeDiff, Nat.reduceEqDiff, Nat.reduceBEq, Nat.reduceBNe, Nat.reduceGT, Int.reduceAdd, Int.reduceSub, Int.reduceMul, Int.reduceNeg, Int.reduceLT, Int.reduceLE, Int.reduceEq, Int.reduceNe, Int.reduceBEq, Int.reduceBNe, Int.reduceToNat, Int.reduceGT, Int.reduceGE, ↓reduceIte, decide_true, decide_false, eq_self, Nat.mul_one, Nat.zero_mul, Nat.one_mul, Int.le_refl, Nat.le_refl, Int.cast_ofNat_Int, Try.f8, Vial.t, Vial.cs, unRds, hl, hc, ht, TE.t, Span.t, Span.cs, List.length_nil, beq_self_eq_true, bne_self_eq_false]
  · cases cb with
    | false => rcases hs with ⟨rfl, rfl⟩ | ⟨full, rfl⟩ <;> simp (decide := true) (maxSteps := 4000000) only [go_sem, Nat.reduceAdd, Nat.reduceSub, Nat.reduceMul, Nat.reduceDiv, Nat.reduceMod, Nat.reduceLT, Nat.reduceLeDiff, Nat.reduceEqDiff, Nat.reduceBEq, Nat.reduceBNe, Nat.reduceGT, Int.reduceAdd, Int.reduceSub, Int.reduceMul, Int.reduceNeg, Int.reduceLT, Int.reduceLE, Int.reduceEq, Int.reduceNe, Int.reduceBEq, Int.reduceBNe, Int.reduceToNat, Int.reduceGT, Int.reduceGE, ↓reduceIte, decide_true, decide_false, eq_self, Nat.mul_one, Nat.zero_mul, Nat.one_mul, Int.le_refl, Nat.le_refl, Int.cast_ofNat_Int, Try.f8, Vial.t, Vial.cs, unRds, hl, hc, ht, TE.t, Span.t, Span.cs, List.length_nil, beq_self_eq_true, bne_self_eq_false]
    | true =>
      obtain ⟨g1, g2⟩ := h rfl
      have g1' := inB_iff.2 g1
      have g2' := inB_iff.2 g2
      rcases hs with ⟨rfl, rfl⟩ | ⟨full, rfl⟩ <;> simp (decide := true) (maxSteps := 4000000) only [go_sem, Nat.reduceAdd, Nat.reduceSub, Nat.reduceMul, Nat.reduceDiv, Nat.reduceMod, Nat.reduceLT, Nat.reduceLeDiff, Nat.reduceEqDiff, Nat.reduceBEq, Nat.reduceBNe, Nat.reduceGT, Int.reduceAdd, Int.reduceSub, Int.reduceMul, Int.reduceNeg, Int.reduceLT, Int.reduceLE, Int.reduceEq, Int.reduceNe, Int.reduceBEq, Int.reduceBNe, Int.reduceToNat, Int.reduceGT, Int.reduceGE, ↓reduceIte, decide_true, decide_false, eq_self, Nat.mul_one, Nat.zero_mul, Nat.one_mul, Int.le_refl, Nat.le_refl, Int.cast_ofNat_Int, Try.f8, Vial.t, Vial.cs, unRds, hl, hc, ht, TE.t, Span.t, Span.cs, List.length_nil, beq_self_eq_true, bne_self_eq_false, g1', g2']
end Go.Proofs.Ytgofljmnlfnlnaa

/- Part Md. -/
namespace Go.Proofs.Ytgofljmnlfnlnaa
open Go.RowKit Go.Pm Go.Oc
set_option maxRecDepth 100000
set_option linter.unusedVariables false

theorem int_cells {k : Nat} {cs : List TV} (h : cellsOk Try.prog (k + 1) 3 cs) : ∃ n, cs = [.int .i64 n] ∧ In64 n := cellsOk_i64 (by kernel_rfl) h
theorem bool_cells {k : Nat} {cs : List TV} (h : cellsOk Try.prog (k + 1) 4 cs) : ∃ b, cs = [.bool b] := cellsOk_boolT (by kernel_rfl) h
theorem span_cells {k : Nat} {cs : List TV} (h : cellsOk Try.prog (k + 2) 23 cs) : ∃ s : Span, cs = s.cs ∧ In64 s.lo ∧ In64 s.hi := by
  have h := cellsOk_tys (ts := [3, 3]) (by kernel_rfl) h
  obtain ⟨_, r, rfl, h1, h⟩ := seqOk_cons h
  obtain ⟨_, r, rfl, h2, h⟩ := seqOk_cons h
  cases seqOk_nil h
  obtain ⟨a, rfl, ha⟩ := int_cells h1
  obtain ⟨b, rfl, hb⟩ := int_cells h2
  exact ⟨⟨a, b⟩, rfl, ha, hb⟩
theorem vial_cells {k : Nat} {cs : List TV} (h : cellsOk Try.prog (k + 3) 25 cs) : ∃ v : Vial, cs = v.cs ∧ (In64 v.marks ∧ In64 v.l0 ∧ In64 v.l1 ∧ In64 v.v0 ∧ In64 v.v1 ∧ In64 v.z0 ∧ In64 v.z1 ∧ In64 v.wr) := by
  have h := cellsOk_tys (ts := [3, 23, 23, 23, 3]) (by kernel_rfl) h
  obtain ⟨_, r, rfl, h1, h⟩ := seqOk_cons h
  obtain ⟨_, r, rfl, h2, h⟩ := seqOk_cons h
  obtain ⟨_, r, rfl, h3, h⟩ := seqOk_cons h
  obtain ⟨_, r, rfl, h4, h⟩ := seqOk_cons h
  obtain ⟨_, r, rfl, h5, h⟩ := seqOk_cons h
  cases seqOk_nil h
  obtain ⟨m, rfl, im⟩ := int_cells h1
  obtain ⟨a, rfl, ia, ia'⟩ := span_cells h2
  obtain ⟨b, rfl, ib, ib'⟩ := span_cells h3
  obtain ⟨c, rfl, ic, ic'⟩ := span_cells h4
  obtain ⟨g, rfl, ig⟩ := int_cells h5
  exact ⟨⟨m, a.lo, a.hi, b.lo, b.hi, c.lo, c.hi, g⟩, rfl, im, ia, ia', ib, ib', ic, ic', ig⟩
theorem rd_cells {k : Nat} {cs : List TV} (h : cellsOk Try.prog (k + 2) 57 cs) : ∃ r : Rd, cs = r.cs ∧ In64 r.left ∧ In64 r.right := by
  have h := cellsOk_tys (ts := [3, 3, 4]) (by kernel_rfl) h
  obtain ⟨_, r, rfl, h1, h⟩ := seqOk_cons h
  obtain ⟨_, r, rfl, h2, h⟩ := seqOk_cons h
  obtain ⟨_, r, rfl, h3, h⟩ := seqOk_cons h
  cases seqOk_nil h
  obtain ⟨a, rfl, ia⟩ := int_cells h1
  obtain ⟨b, rfl, ib⟩ := int_cells h2
  obtain ⟨c, rfl⟩ := bool_cells h3
  exact ⟨⟨a, b, c⟩, rfl, ia, ib⟩
theorem spanArg {x : TV} (h : argOk Try.prog 23 x) : ∃ s : Span, x = s.t ∧ In64 s.lo ∧ In64 s.hi := by
  obtain ⟨cs, rfl, h'⟩ := argOk_agg (ts := [3, 3]) (by kernel_rfl) h
  obtain ⟨s, rfl, h''⟩ := span_cells h'
  exact ⟨s, rfl, h''⟩
theorem intArg {x : TV} (h : argOk Try.prog 3 x) : ∃ n, x = .int .i64 n ∧ In64 n := argOk_i64 (by kernel_rfl) h
theorem vialArg {x : TV} (h : argOk Try.prog 25 x) : ∃ v : Vial, x = v.t := by
  obtain ⟨cs, rfl, h'⟩ := argOk_agg (ts := [3, 23, 23, 23, 3]) (by kernel_rfl) h
  obtain ⟨s, rfl, _⟩ := vial_cells h'
  exact ⟨s, rfl⟩
theorem rdArg {x : TV} (h : argOk Try.prog 57 x) : ∃ r : Rd, x = .agg r.cs ∧ In64 r.left ∧ In64 r.right := by
  obtain ⟨cs, rfl, h'⟩ := argOk_agg (ts := [3, 3, 4]) (by kernel_rfl) h
  obtain ⟨s, rfl, h''⟩ := rd_cells h'
  exact ⟨s, rfl, h''⟩
theorem truthArg {x : TV} (h : argOk Try.prog 28 x) : ∃ a b c, x = .agg [.int .i64 a, .int .i64 b, .int .i64 c] ∧ In64 a ∧ In64 b ∧ In64 c := by
  obtain ⟨cs, rfl, h'⟩ := argOk_agg (ts := [3, 3, 3]) (by kernel_rfl) h
  have h := cellsOk_tys (ts := [3, 3, 3]) (by kernel_rfl) h'
  obtain ⟨_, r, rfl, h1, h⟩ := seqOk_cons h
  obtain ⟨_, r, rfl, h2, h⟩ := seqOk_cons h
  obtain ⟨_, r, rfl, h3, h⟩ := seqOk_cons h
  cases seqOk_nil h
  obtain ⟨a, rfl, ia⟩ := int_cells h1
  obtain ⟨b, rfl, ib⟩ := int_cells h2
  obtain ⟨c, rfl, ic⟩ := int_cells h3
  exact ⟨a, b, c, rfl, ia, ib, ic⟩
theorem pairOf {t : TypeId} (ht : tysOf Try.prog t = some [3, 3]) {x : TV} (h : argOk Try.prog t x) : ∃ a b, x = .agg [.int .i64 a, .int .i64 b] ∧ In64 a ∧ In64 b := by
  obtain ⟨cs, rfl, h'⟩ := argOk_agg ht h
  have h := cellsOk_tys ht h'
  obtain ⟨_, r, rfl, h1, h⟩ := seqOk_cons h
  obtain ⟨_, r, rfl, h2, h⟩ := seqOk_cons h
  cases seqOk_nil h
  obtain ⟨a, rfl, ia⟩ := int_cells h1
  obtain ⟨b, rfl, ib⟩ := int_cells h2
  exact ⟨a, b, rfl, ia, ib⟩
theorem pairArg {x : TV} (h : argOk Try.prog 55 x) : ∃ a b, x = .agg [.int .i64 a, .int .i64 b] ∧ In64 a ∧ In64 b := pairOf (by kernel_rfl) h
theorem wishArg {x : TV} (h : argOk Try.prog 49 x) : ∃ a b, x = .agg [.int .i64 a, .int .i64 b] ∧ In64 a ∧ In64 b := pairOf (by kernel_rfl) h
theorem fiveArg {x : TV} (h : argOk Try.prog 69 x) : ∃ a b c d e, x = .agg [.int .i64 a, .int .i64 b, .int .i64 c, .int .i64 d, .int .i64 e] ∧ In64 a ∧ In64 b ∧ In64 c ∧ In64 d ∧ In64 e := by
  have ht : tysOf Try.prog 69 = some [3, 3, 3, 3, 3] := by kernel_rfl
  obtain ⟨cs, rfl, h'⟩ := argOk_agg ht h
  have h := cellsOk_tys ht h'
  obtain ⟨_, r, rfl, h1, h⟩ := seqOk_cons h
  obtain ⟨_, r, rfl, h2, h⟩ := seqOk_cons h
  obtain ⟨_, r, rfl, h3, h⟩ := seqOk_cons h
  obtain ⟨_, r, rfl, h4, h⟩ := seqOk_cons h
  obtain ⟨_, r, rfl, h5, h⟩ := seqOk_cons h
  cases seqOk_nil h
  obtain ⟨a, rfl, ia⟩ := int_cells h1
  obtain ⟨b, rfl, ib⟩ := int_cells h2
  obtain ⟨c, rfl, ic⟩ := int_cells h3
  obtain ⟨d, rfl, id⟩ := int_cells h4
  obtain ⟨e, rfl, ie⟩ := int_cells h5
  exact ⟨a, b, c, d, e, rfl, ia, ib, ic, id, ie⟩
theorem rdsArg {x : TV} (h : argOk Try.prog 26 x) : ∃ l : List Rd, IsRow Rd.cs x l ∧ l.length ≤ 5864062014634 ∧ ∀ r ∈ l, In64 r.left ∧ In64 r.right := by
  obtain ⟨l, h1, h2, h3, _⟩ := cellsOk_row (e := 57) (c := Rd.cs) (k := 19) (by kernel_rfl) (fun cs hc => rd_cells hc) (argOk_sl (e := 57) (by kernel_rfl) h)
  rw [show Program.bytesOf Try.prog 57 = 24 by kernel_rfl] at h3
  unfold reachBytes at h3
  exact ⟨l, h1, by omega, h2⟩
theorem vialsArg {x : TV} (h : argOk Try.prog 47 x) : ∃ l : List Vial, IsRow Vial.cs x l ∧ l.length ≤ 2199023255551 := by
  obtain ⟨l, h1, h2, h3, _⟩ := cellsOk_row (e := 25) (c := Vial.cs) (k := 19) (by kernel_rfl) (fun cs hc => vial_cells hc) (argOk_sl (e := 25) (by kernel_rfl) h)
  rw [show Program.bytesOf Try.prog 25 = 64 by kernel_rfl] at h3
  unfold reachBytes at h3
  exact ⟨l, h1, by omega⟩
theorem intsArg {x : TV} (h : argOk Try.prog 37 x) : ∃ l : List Int, IsRow ic x l ∧ l.length ≤ 17592186044415 := by
  obtain ⟨l, h1, h2, h3, _⟩ := cellsOk_row (e := 3) (c := ic) (k := 19) (p := fun n => In64 n) (by kernel_rfl) (fun cs hc => int_cells hc) (argOk_sl (e := 3) (by kernel_rfl) h)
  rw [show Program.bytesOf Try.prog 3 = 8 by kernel_rfl] at h3
  unfold reachBytes at h3
  exact ⟨l, h1, by omega⟩
end Go.Proofs.Ytgofljmnlfnlnaa

/- Part Ml. -/
namespace Go.Oc
open Go Go.Pm Go.Proofs.Ytgofljmnlfnlnaa

/-- A row of places, as numbers. -/
def nI (S : List Nat) : List Int := S.map Int.ofNat
theorem before_irrefl : ∀ a : List Int, before a a = false
  | [] => rfl
  | x :: a => by simp [before, before_irrefl a]
theorem before_trans : ∀ {a b c : List Int}, before a b = true → before b c = true → before a c = true
  | [], [], _, h, _ => by cases h
  | [], _ :: _, [], _, h => by cases h
  | [], _ :: _, _ :: _, _, _ => rfl
  | _ :: _, [], _, h, _ => by cases h
  | _ :: _, _ :: _, [], _, h => by cases h
  | x :: a, y :: b, z :: c, h1, h2 => by
    simp only [before] at h1 h2 ⊢
    by_cases hxy : x < y
    · by_cases hyz : y < z
      · rw [if_pos (show x < z by omega)]
      · rw [if_neg hyz] at h2
        by_cases hzy : z < y
        · rw [if_pos hzy] at h2; cases h2
        · rw [if_pos (show x < z by omega)]
    · rw [if_neg hxy] at h1
      by_cases hyx : y < x
      · rw [if_pos hyx] at h1; cases h1
      · rw [if_neg hyx] at h1
        have : x = y := by omega
        subst this
        by_cases hyz : x < z
        · rw [if_pos hyz]
        · rw [if_neg hyz] at h2 ⊢
          by_cases hzy : z < x
          · rw [if_pos hzy] at h2; cases h2
          · rw [if_neg hzy] at h2 ⊢
            exact before_trans h1 h2
theorem before_total : ∀ {a b : List Int}, a.length = b.length → before a b = false → before b a = false → a = b
  | [], [], _, _, _ => rfl
  | [], _ :: _, h, _, _ => by simp at h
  | _ :: _, [], h, _, _ => by simp at h
  | x :: a, y :: b, h, h1, h2 => by
    simp only [before] at h1 h2
    have hxy : ¬ x < y := fun h' => by rw [if_pos h'] at h1; cases h1
    have hyx : ¬ y < x := fun h' => by rw [if_pos h'] at h2; cases h2
    rw [if_neg hxy, if_neg hyx] at h1
    rw [if_neg hyx, if_neg hxy] at h2
    have : x = y := by omega
    subst this
    rw [before_total (by simpa using h) h1 h2]
theorem before_append (c : List Int) {a b : List Int} : before (c ++ a) (c ++ b) = before a b := by
  induction c with
  | nil => rfl
  | cons x c ih => simp only [List.cons_append, before, if_neg (Int.lt_irrefl x)]; exact ih
/-- Is the first row better than the second one? -/
def bet (a b : List Int) : Prop := a.length < b.length ∨ a.length = b.length ∧ before a b = true
theorem bet_irrefl (a : List Int) : ¬ bet a a := by
  rintro (h | ⟨_, h⟩)
  · omega
  · rw [before_irrefl] at h; cases h
theorem bet_trans {a b c : List Int} (h1 : bet a b) (h2 : bet b c) : bet a c := by
  rcases h1 with h1 | ⟨h1, g1⟩ <;> rcases h2 with h2 | ⟨h2, g2⟩
  · exact .inl (by omega)
  · exact .inl (by omega)
  · exact .inl (by omega)
  · exact .inr ⟨by omega, before_trans g1 g2⟩
theorem bet_total {a b : List Int} (h1 : ¬ bet a b) (h2 : ¬ bet b a) : a = b := by
  unfold bet at h1 h2
  have hl : a.length = b.length := by omega
  refine before_total hl ?_ ?_
  · cases h : before a b with
    | false => rfl
    | true => exact absurd (.inr ⟨hl, h⟩) h1
  · cases h : before b a with
    | false => rfl
    | true => exact absurd (.inr ⟨hl.symm, h⟩) h2

/-- The middles at places. -/
def selN (L : List Mk) (S : List Nat) : List Mk := S.filterMap (L[·]?)
/-- Can the middles at these places not all be so? -/
def badN (v : Vial) (L : List Mk) (S : List Nat) : Prop := (tilts v (selN L S)).is = false
/-- A row of places below n, increasing. -/
def rowN (n : Nat) (S : List Nat) : Prop := ∃ p : Nat → Bool, S = (List.range n).filter p
/-- The first of the least rows that cannot all be so. -/
structure Least (v : Vial) (L : List Mk) (n : Nat) (S : List Nat) : Prop where
  row : rowN n S
  ne : S ≠ []
  bad : badN v L S
  min : ∀ S', rowN n S' → S' ≠ [] → badN v L S' → ¬ bet (nI S') (nI S)
theorem nI_inj {a b : List Nat} (h : nI a = nI b) : a = b := by
  unfold nI at h
  exact List.map_inj_right (fun _ _ h => Int.ofNat.inj h) |>.1 h
theorem least_one {v : Vial} {L : List Mk} {n : Nat} {S S' : List Nat} (h : Least v L n S) (h' : Least v L n S') : S = S' :=
  nI_inj (bet_total (h'.min S h.row h.ne h.bad) (h.min S' h'.row h'.ne h'.bad))
theorem range_sorted (n : Nat) (p : Nat → Bool) : ((List.range n).filter p).Pairwise (· < ·) := List.pairwise_lt_range.filter p
theorem sorted_mem_ext {a b : List Nat} (ha : a.Pairwise (· < ·)) (hb : b.Pairwise (· < ·)) (h : ∀ x, x ∈ a ↔ x ∈ b) : a = b := by
  induction a generalizing b with
  | nil =>
    cases b with
    | nil => rfl
    | cons y b => have := (h y).2 (by simp); cases this
  | cons x a ih =>
    cases b with
    | nil => have := (h x).1 (by simp); cases this
    | cons y b =>
      rw [List.pairwise_cons] at ha hb
      have hx := (h x).1 (by simp)
      have hy := (h y).2 (by simp)
      have hxy : x = y := by
        rcases List.mem_cons.1 hx with hx | hx
        · exact hx
        · rcases List.mem_cons.1 hy with hy | hy
          · exact hy.symm
          · have := ha.1 y hy; have := hb.1 x hx; omega
      subst hxy
      rw [ih ha.2 hb.2 fun z => ?_]
      have hz := h z
      simp only [List.mem_cons] at hz
      constructor
      · intro hza
        have := ha.1 z hza
        rcases hz.1 (.inr hza) with rfl | h
        · omega
        · exact h
      · intro hzb
        have := hb.1 z hzb
        rcases hz.2 (.inr hzb) with rfl | h
        · omega
        · exact h
/-- A row is one that is increasing and below n. -/
theorem rowN_iff {n : Nat} {S : List Nat} : rowN n S ↔ S.Pairwise (· < ·) ∧ ∀ x ∈ S, x < n := by
  constructor
  · rintro ⟨p, rfl⟩
    exact ⟨range_sorted n p, fun x hx => List.mem_range.1 (List.mem_filter.1 hx).1⟩
  · rintro ⟨h1, h2⟩
    refine ⟨fun x => decide (x ∈ S), sorted_mem_ext h1 (range_sorted n _) fun x => ?_⟩
    simp only [List.mem_filter, List.mem_range, decide_eq_true_eq]
    exact ⟨fun h => ⟨h2 x h, h⟩, fun h => h.2⟩
theorem selN_sub {L : List Mk} {S : List Nat} {m : Mk} (h : m ∈ selN L S) : m ∈ L := by
  obtain ⟨i, _, hi⟩ := List.mem_filterMap.1 h
  exact List.mem_of_getElem? hi
theorem feas_selN {v : Vial} {L : List Mk} {S : List Nat} {z : Int} (h : feas v L z) : feas v (selN L S) z := by
  have hle := h.2
  have key := (fold_in_iff (w := v.wr) (z := z) (c := 1) (t := (withinS v.wr L z).lo) (by omega) L ⟨-10000, 10000⟩).1 (by
    rw [show L.foldl (inS v.wr z) ⟨-10000, 10000⟩ = withinS v.wr L z from rfl]; omega)
  have key2 := (fold_in_iff (w := v.wr) (z := z) (c := 1) (t := (withinS v.wr L z).lo) (by omega) (selN L S) ⟨-10000, 10000⟩).2 ⟨key.1, fun m hm => key.2 m (selN_sub hm)⟩
  rw [show (selN L S).foldl (inS v.wr z) ⟨-10000, 10000⟩ = withinS v.wr (selN L S) z from rfl] at key2
  exact ⟨h.1, by omega⟩
theorem bad_all {v : Vial} {L : List Mk} {S : List Nat} (h : badN v L S) : (tilts v L).is = false := by
  cases hi : (tilts v L).is with
  | false => rfl
  | true =>
    obtain ⟨z, hz⟩ := tilts_is.1 hi
    have := tilts_is.2 ⟨z, feas_selN (S := S) hz⟩
    unfold badN at h
    rw [this] at h; cases h
theorem selN_range : ∀ (L : List Mk), selN L (List.range L.length) = L := by
  intro L
  unfold selN
  apply List.ext_getElem?
  intro i
  have : ∀ k, k ≤ L.length → (List.range k).filterMap (L[·]?) = L.take k := by
    intro k
    induction k with
    | zero => intro _; simp
    | succ k ih =>
      intro hk
      rw [List.range_succ, List.filterMap_append, ih (by omega)]
      simp only [List.filterMap_cons, List.filterMap_nil]
      rw [List.getElem?_eq_getElem (by omega)]
      rw [List.take_add_one, List.getElem?_eq_getElem (by omega)]
      rfl
  rw [this L.length (Nat.le_refl _), List.take_length]

/-- More places, from fr on. -/
structure More (n fr m : Nat) (J : List Nat) : Prop where
  len : J.length = m
  inc : J.Pairwise (· < ·)
  lo : ∀ x ∈ J, fr ≤ x
  hi : ∀ x ∈ J, x < n
def StT (n : Nat) (T : Tk) : List Nat := (List.range n).filter T.at
theorem StT_set {n i : Nat} {T : Tk} (hi : i < n) (hn : n ≤ 8) (hT : ∀ j, T.at j = true → j < i) : StT n (T.set i) = StT n T ++ [i] := by
  have e : ∀ k, i < k → k ≤ 8 → (List.range k).filter (T.set i).at = (List.range k).filter T.at ++ [i] := by
    intro k
    induction k with
    | zero => intro h; omega
    | succ k ih =>
      intro h h8
      rw [List.range_succ, List.filter_append, List.filter_append]
      by_cases hk : i = k
      · subst hk
        have h1 : (List.range i).filter (T.set i).at = (List.range i).filter T.at := List.filter_congr fun x hx => by
          have := List.mem_range.1 hx
          rw [Tk.at_set T (by omega)]
          have : (i == x) = false := by simp; omega
          rw [this, Bool.or_false]
        have h2 : (T.set i).at i = true := by rw [Tk.at_set T (by omega)]; simp
        have h3 : T.at i = false := by
          cases h : T.at i with
          | false => rfl
          | true => have := hT i h; omega
        rw [h1, List.filter_cons_of_pos (by rw [h2]), List.filter_cons_of_neg (by rw [h3]; simp)]
        simp
      · rw [ih (by omega) (by omega)]
        have h2 : (T.set i).at k = false := by
          rw [Tk.at_set T (by omega)]
          have : (i == k) = false := by simp; omega
          rw [this, Bool.or_false]
          cases h : T.at k with
          | false => rfl
          | true => have := hT k h; omega
        have h3 : T.at k = false := by
          cases h : T.at k with
          | false => rfl
          | true => have := hT k h; omega
        rw [List.filter_cons_of_neg (by rw [h2]; simp), List.filter_cons_of_neg (by rw [h3]; simp)]
        simp
  exact e n hi hn
/-- What the search has found. -/
def leafS (S : List Nat) : TV := .sl (ints (nI S)) (nI S).length false
structure Found (v : Vial) (L : List Mk) (n fr m : Nat) (St : List Nat) (out : TV) (J : List Nat) : Prop where
  more : More n fr m J
  bad : badN v L (St ++ J)
  out : out = leafS (St ++ J)
  first : ∀ J', More n fr m J' → badN v L (St ++ J') → before (nI J') (nI J) = false
theorem choose_found {v : Vial} {L : List Mk} (hn : L.length ≤ 8) : ∀ (m : Nat) (T : Tk) (fr : Nat) (o : TV), (∀ j, T.at j = true → j < fr) →
    ((chooseS v L m T fr o).1 = true → ∃ J, Found v L L.length fr m (StT L.length T) (chooseS v L m T fr o).2 J) ∧
    ((chooseS v L m T fr o).1 = false → ∀ J, More L.length fr m J → ¬ badN v L (StT L.length T ++ J))
  | 0, T, fr, o, hT => by
    have hsel : sel L T L.length = selN L (StT L.length T) := rfl
    have nilJ : ∀ J, More L.length fr 0 J → J = [] := fun J hJ => List.length_eq_zero_iff.1 hJ.len
    constructor
    · intro h
      simp only [chooseS, Bool.not_eq_true'] at h ⊢
      refine ⟨[], ⟨⟨rfl, List.Pairwise.nil, by simp, by simp⟩, ?_, ?_, ?_⟩⟩
      · rw [List.append_nil]; unfold badN; rw [← hsel]; exact h
      · rw [List.append_nil]; rfl
      · intro J' hJ' _; rw [nilJ J' hJ']; rfl
    · intro h J hJ hb
      simp only [chooseS, Bool.not_eq_false'] at h
      rw [nilJ J hJ, List.append_nil] at hb
      unfold badN at hb
      rw [← hsel, h] at hb; cases hb
  | m + 1, T, fr, o, hT => by
    rw [chooseS_succ]
    have key : ∀ j, fr + j ≤ L.length ∨ j = 0 →
        ((chooseTo v L m T fr o j).1 = true → ∃ J, Found v L L.length fr (m + 1) (StT L.length T) (chooseTo v L m T fr o j).2 J) ∧
        ((chooseTo v L m T fr o j).1 = false → ∀ J, More L.length fr (m + 1) J → (∃ x J', J = x :: J' ∧ x < fr + j) → ¬ badN v L (StT L.length T ++ J)) := by
      intro j
      induction j with
      | zero =>
        intro _
        refine ⟨fun h => (by cases h), fun _ J hJ ⟨x, J', e, hx⟩ => ?_⟩
        have := hJ.lo x (by rw [e]; simp)
        omega
      | succ j ih =>
        intro hj
        have hj' : fr + j < L.length := by omega
        obtain ⟨ih1, ih2⟩ := ih (by omega)
        cases hf : (chooseTo v L m T fr o j).1 with
        | true =>
          have e : chooseTo v L m T fr o (j + 1) = chooseTo v L m T fr o j := chooseTo_stop hf 1
          rw [e]
          exact ⟨ih1, fun h => by rw [hf] at h; cases h⟩
        | false =>
          rw [chooseTo_succ hf]
          have hst := StT_set (T := T) hj' hn (fun j' h => by have := hT j' h; omega)
          have hrec := choose_found (v := v) hn m (T.set (fr + j)) (fr + j + 1) (chooseTo v L m T fr o j).2 (fun j' h => by
            rw [Tk.at_set T (by omega)] at h
            rcases Bool.or_eq_true _ _ |>.mp h with h | h
            · have := hT j' h; omega
            · have : fr + j = j' := by simpa using h
              omega)
          rw [hst] at hrec
          constructor
          · intro h
            obtain ⟨J, hJ⟩ := hrec.1 h
            refine ⟨(fr + j) :: J, ⟨⟨by simp [hJ.more.len], ?_, ?_, ?_⟩, ?_, ?_, ?_⟩⟩
            · exact List.pairwise_cons.2 ⟨fun x hx => by have := hJ.more.lo x hx; omega, hJ.more.inc⟩
            · intro x hx
              rcases List.mem_cons.1 hx with rfl | hx
              · omega
              · have := hJ.more.lo x hx; omega
            · intro x hx
              rcases List.mem_cons.1 hx with rfl | hx
              · omega
              · exact hJ.more.hi x hx
            · have := hJ.bad; rwa [List.append_assoc] at this
            · rw [hJ.out, List.append_assoc]; rfl
            · intro J' hJ' hb
              match J', hJ' with
              | [], hJ' => have := hJ'.len; simp at this
              | x :: J', hJ' =>
                have hx := hJ'.lo x (by simp)
                have hlt : ¬ x < fr + j := fun hlt => ih2 hf _ hJ' ⟨x, J', rfl, hlt⟩ hb
                show before ((x : Int) :: nI J') (((fr + j : Nat) : Int) :: nI J) = false
                simp only [before]
                rw [if_neg (by omega)]
                by_cases hgt : x = fr + j
                · subst hgt
                  rw [if_neg (by omega)]
                  have hp := List.pairwise_cons.1 hJ'.inc
                  refine hJ.first J' ⟨by have := hJ'.len; simpa using this, hp.2, fun y hy => by have := hp.1 y hy; omega, fun y hy => hJ'.hi y (List.mem_cons_of_mem _ hy)⟩ ?_
                  rw [List.append_assoc]; exact hb
                · rw [if_pos (by omega)]
          · intro h J hJ ⟨x, J', e, hx⟩ hb
            subst e
            by_cases hxj : x = fr + j
            · subst hxj
              have hp := List.pairwise_cons.1 hJ.inc
              refine hrec.2 h J' ⟨by have := hJ.len; simpa using this, hp.2, fun y hy => by have := hp.1 y hy; omega, fun y hy => hJ.hi y (List.mem_cons_of_mem _ hy)⟩ ?_
              rw [List.append_assoc]; exact hb
            · exact ih2 hf _ hJ ⟨x, J', rfl, by omega⟩ hb
    have k := key (L.length - fr) (by omega)
    refine ⟨k.1, fun h J hJ hb => ?_⟩
    match J, hJ with
    | [], hJ => have := hJ.len; simp at this
    | x :: J', hJ =>
      have h1 := hJ.hi x (by simp)
      have h2 := hJ.lo x (by simp)
      exact k.2 h _ hJ ⟨x, J', rfl, by omega⟩ hb
theorem StT_none (n : Nat) : StT n Tk.none = [] := by
  unfold StT
  rw [List.filter_eq_nil_iff]
  intro x _
  unfold Tk.none Tk.at
  split <;> simp
/-- What False comes to: behind so many sizes. -/
theorem falseTo_law {v : Vial} {L : List Mk} (hn : L.length ≤ 8) : ∀ k, k ≤ L.length →
    ((falseTo v L k).1 = true → ∃ S, Least v L L.length S ∧ (falseTo v L k).2 = leafS S) ∧
    ((falseTo v L k).1 = false → ∀ S, rowN L.length S → S ≠ [] → S.length ≤ k → ¬ badN v L S)
  | 0, _ => ⟨fun h => (by cases h), fun _ S hS hne hl => absurd (List.length_eq_zero_iff.1 (by omega)) hne⟩
  | k + 1, hk => by
    obtain ⟨ih1, ih2⟩ := falseTo_law hn k (by omega)
    cases hf : (falseTo v L k).1 with
    | true =>
      have e : falseTo v L (k + 1) = falseTo v L k := falseTo_stop hf 1
      rw [e]
      exact ⟨ih1, fun h => by rw [hf] at h; cases h⟩
    | false =>
      rw [falseTo_next hf]
      have c := choose_found (v := v) hn (k + 1) Tk.none 0 (falseTo v L k).2 (fun j h => by
        exfalso; unfold Tk.none Tk.at at h; split at h <;> cases h)
      rw [StT_none] at c
      have toMore : ∀ S, rowN L.length S → S.length = k + 1 → More L.length 0 (k + 1) S := fun S hS hl => ⟨hl, (rowN_iff.1 hS).1, fun x _ => Nat.zero_le x, (rowN_iff.1 hS).2⟩
      constructor
      · intro h
        obtain ⟨J, hJ⟩ := c.1 h
        have hb : badN v L J := hJ.bad
        refine ⟨J, ⟨rowN_iff.2 ⟨hJ.more.inc, hJ.more.hi⟩, ?_, hb, fun S' hS' hne' hb' hbet => ?_⟩, hJ.out⟩
        · intro h0
          have := hJ.more.len
          rw [h0] at this; simp at this
        · have l1 : (nI S').length = S'.length := List.length_map _
          have l2 : (nI J).length = k + 1 := by rw [nI, List.length_map, hJ.more.len]
          rcases hbet with hlt | ⟨heq, hbf⟩
          · exact ih2 hf S' hS' hne' (by omega) hb'
          · have := hJ.first S' (toMore S' hS' (by omega)) hb'
            rw [this] at hbf; cases hbf
      · intro h S hS hne hl hb
        by_cases hlk : S.length ≤ k
        · exact ih2 hf S hS hne hlk hb
        · exact c.2 h S (toMore S hS (by omega)) hb
theorem rowN_len {n : Nat} {S : List Nat} (h : rowN n S) : S.length ≤ n := by
  obtain ⟨p, rfl⟩ := h
  have := List.length_filter_le p (List.range n)
  simpa using this
theorem row_all (n : Nat) : rowN n (List.range n) := ⟨fun _ => true, (List.filter_eq_self.2 (fun _ _ => rfl)).symm⟩
/-- THE THEOREM OF THE FALSE READING, plainly: what False hands back is the least row. -/
theorem false_law {v : Vial} {l : List Rd} (hk : asked v l = 0) :
    ((tilts v (l.map mid)).is = true ∧ falseP v l = (.nilSl, 4)) ∨
    ((tilts v (l.map mid)).is = false ∧ ∃ S, Least v (l.map mid) l.length S ∧ falseP v l = (leafS S, 0)) := by
  obtain ⟨hv, hr⟩ := asked_zero hk
  have h8 := rdsOk_len hr
  unfold falseP
  rw [if_pos hk]
  cases hi : (tilts v (l.map mid)).is with
  | true => exact .inl ⟨rfl, rfl⟩
  | false =>
    have hml : (l.map mid).length = l.length := List.length_map _
    have c := falseTo_law (v := v) (L := l.map mid) (by omega) l.length (by omega)
    rw [hml] at c
    cases hf : (falseTo v (l.map mid) l.length).1 with
    | true =>
      obtain ⟨S, h1, h2⟩ := c.1 hf
      exact .inr ⟨rfl, S, h1, by rw [h2]; rfl⟩
    | false =>
      refine absurd ?_ (c.2 hf (List.range l.length) (row_all _) ?_ (by simp))
      · unfold badN
        have := selN_range (l.map mid)
        rw [hml] at this
        rw [this]; exact hi
      · intro h0
        have := congrArg List.length h0
        rw [List.length_range, List.length_nil] at this
        omega
/-- The specification's search: what it has come to behind so many sets. -/
def refStep (v : Vial) (L : List Mk) (n : Nat) (best : List Nat) (set : Nat) : List Nat :=
  let S := (List.range n).filter set.testBit
  if (tilts v (selN L S)).is then best else if best.length = 0 ∨ S.length < best.length ∨ S.length = best.length ∧ before (nI S) (nI best) = true then S else best
def refTo (v : Vial) (L : List Mk) (n k : Nat) : List Nat := (List.range' 1 k).foldl (refStep v L n) []
theorem refTo_succ (v : Vial) (L : List Mk) (n k : Nat) : refTo v L n (k + 1) = refStep v L n (refTo v L n k) (k + 1) := by
  unfold refTo
  rw [List.range'_1_concat, List.foldl_append, Nat.add_comm 1 k]; rfl
def setN (n s : Nat) : List Nat := (List.range n).filter s.testBit
theorem setN_ne {n s : Nat} (h1 : 1 ≤ s) (h2 : s < 2 ^ n) : setN n s ≠ [] := by
  intro h
  unfold setN at h
  rw [List.filter_eq_nil_iff] at h
  have : s = 0 := by
    apply Nat.eq_of_testBit_eq
    intro i
    rw [Nat.zero_testBit]
    by_cases hi : i < n
    · have := h i (List.mem_range.2 hi)
      simpa using this
    · exact Nat.testBit_lt_two_pow (Nat.lt_of_lt_of_le h2 (Nat.pow_le_pow_right (by omega) (by omega)))
  omega
theorem set_of (p : Nat → Bool) : ∀ n : Nat, ∃ s, s < 2 ^ n ∧ ∀ i, i < n → s.testBit i = p i
  | 0 => ⟨0, by simp, fun i h => by omega⟩
  | n + 1 => by
    obtain ⟨s, h1, h2⟩ := set_of p n
    have hlt : s < 2 ^ (n + 1) := Nat.lt_of_lt_of_le h1 (Nat.pow_le_pow_right (by omega) (by omega))
    cases hp : p n with
    | false =>
      refine ⟨s, hlt, fun i hi => ?_⟩
      by_cases hin : i = n
      · subst hin; rw [hp]; exact Nat.testBit_lt_two_pow h1
      · exact h2 i (by omega)
    | true =>
      refine ⟨s ||| 2 ^ n, Nat.or_lt_two_pow hlt (Nat.pow_lt_pow_right (by omega) (by omega)), fun i hi => ?_⟩
      rw [Nat.testBit_or, Nat.testBit_two_pow]
      by_cases hin : i = n
      · subst hin; simp [hp]
      · rw [h2 i (by omega)]
        have : decide (n = i) = false := by simp; omega
        rw [this, Bool.or_false]
theorem setN_of {n : Nat} {S : List Nat} (h : rowN n S) (hne : S ≠ []) : ∃ s, 1 ≤ s ∧ s < 2 ^ n ∧ setN n s = S := by
  obtain ⟨p, rfl⟩ := h
  obtain ⟨s, h1, h2⟩ := set_of p n
  have e : setN n s = (List.range n).filter p := List.filter_congr fun i hi => h2 i (List.mem_range.1 hi)
  refine ⟨s, ?_, h1, e⟩
  rcases Nat.eq_zero_or_pos s with h0 | h0
  · exfalso; apply hne
    rw [← e, h0]
    unfold setN
    rw [List.filter_eq_nil_iff]
    intro i _; simp
  · exact h0
theorem refTo_law (v : Vial) (L : List Mk) (n : Nat) : ∀ k, k < 2 ^ n →
    (refTo v L n k = [] ∧ ∀ s, 1 ≤ s → s ≤ k → setN n s ≠ [] → ¬ badN v L (setN n s)) ∨
    (refTo v L n k ≠ [] ∧ rowN n (refTo v L n k) ∧ badN v L (refTo v L n k) ∧ ∀ s, 1 ≤ s → s ≤ k → setN n s ≠ [] → badN v L (setN n s) → ¬ bet (nI (setN n s)) (nI (refTo v L n k)))
  | 0, _ => .inl ⟨rfl, fun s h1 h2 => by omega⟩
  | k + 1, hk => by
    have ih := refTo_law v L n k (by omega)
    rw [refTo_succ]
    unfold refStep
    simp only
    rw [show (List.range n).filter (k + 1).testBit = setN n (k + 1) from rfl]
    have nl : ∀ S : List Nat, (nI S).length = S.length := fun S => List.length_map _
    by_cases hi : (tilts v (selN L (setN n (k + 1)))).is = true
    · rw [if_pos hi]
      have hnb : ¬ badN v L (setN n (k + 1)) := fun h => by unfold badN at h; rw [hi] at h; cases h
      rcases ih with ⟨e, h⟩ | ⟨e, h1, h2, h⟩
      · refine .inl ⟨e, fun s a b hne => ?_⟩
        by_cases hs : s = k + 1
        · subst hs; exact hnb
        · exact h s a (by omega) hne
      · refine .inr ⟨e, h1, h2, fun s a b hne hb => ?_⟩
        by_cases hs : s = k + 1
        · subst hs; exact absurd hb hnb
        · exact h s a (by omega) hne hb
    · rw [if_neg hi]
      have hb : badN v L (setN n (k + 1)) := by
        unfold badN
        cases h : (tilts v (selN L (setN n (k + 1)))).is with
        | false => rfl
        | true => exact absurd h hi
      have hrow : rowN n (setN n (k + 1)) := ⟨_, rfl⟩
      by_cases hc : (refTo v L n k).length = 0 ∨ (setN n (k + 1)).length < (refTo v L n k).length ∨ (setN n (k + 1)).length = (refTo v L n k).length ∧ before (nI (setN n (k + 1))) (nI (refTo v L n k)) = true
      · rw [if_pos hc]
        have hne : setN n (k + 1) ≠ [] := setN_ne (by omega) hk
        refine .inr ⟨hne, hrow, hb, fun s a b hne' hb' hbet => ?_⟩
        by_cases hs : s = k + 1
        · subst hs; exact bet_irrefl _ hbet
        · rcases ih with ⟨e, h⟩ | ⟨e, h1, h2, h⟩
          · exact h s a (by omega) hne' hb'
          · refine h s a (by omega) hne' hb' (bet_trans hbet ?_)
            rcases hc with h0 | h0 | h0
            · exact absurd (List.length_eq_zero_iff.1 h0) e
            · exact .inl (by rw [nl, nl]; exact h0)
            · exact .inr ⟨by rw [nl, nl]; exact h0.1, h0.2⟩
      · rw [if_neg hc]
        rcases ih with ⟨e, h⟩ | ⟨e, h1, h2, h⟩
        · exact absurd (.inl (by rw [e]; rfl)) hc
        · refine .inr ⟨e, h1, h2, fun s a b hne hb' hbet => ?_⟩
          by_cases hs : s = k + 1
          · subst hs
            rcases hbet with h0 | h0
            · rw [nl, nl] at h0; exact hc (.inr (.inl h0))
            · rw [nl, nl] at h0; exact hc (.inr (.inr h0))
          · exact h s a (by omega) hne hb' hbet
/-- What the specification's search comes to is what False hands back. -/
theorem ref_false {v : Vial} {l : List Rd} (hk : asked v l = 0) :
    (refTo v (l.map mid) l.length (2 ^ l.length - 1) = [] ∧ falseP v l = (.nilSl, 4)) ∨
    (refTo v (l.map mid) l.length (2 ^ l.length - 1) ≠ [] ∧ falseP v l = (leafS (refTo v (l.map mid) l.length (2 ^ l.length - 1)), 0)) := by
  have hpos : 0 < 2 ^ l.length := Nat.pow_pos (by omega)
  have r := refTo_law v (l.map mid) l.length (2 ^ l.length - 1) (by omega)
  rcases false_law hk with ⟨hi, hf⟩ | ⟨hi, S, hS, hf⟩
  · rcases r with ⟨e, _⟩ | ⟨e, h1, h2, _⟩
    · exact .inl ⟨e, hf⟩
    · have := bad_all h2; rw [hi] at this; cases this
  · rcases r with ⟨e, h⟩ | ⟨e, h1, h2, h⟩
    · obtain ⟨s, a, b, c⟩ := setN_of hS.row hS.ne
      exact absurd hS.bad (by rw [← c]; exact h s a (by omega) (by rw [c]; exact hS.ne))
    · have hL : Least v (l.map mid) l.length (refTo v (l.map mid) l.length (2 ^ l.length - 1)) := ⟨h1, e, h2, fun S' r1 r2 r3 => by
        obtain ⟨s, a, b, c⟩ := setN_of r1 r2
        rw [← c]
        exact h s a (by omega) (by rw [c]; exact r2) (by rw [c]; exact r3)⟩
      have es := least_one hL hS
      exact .inr ⟨e, by rw [es]; exact hf⟩
end Go.Oc

/- Part Mh. -/
namespace Go.Oc
open Go Go.Pm Go.Proofs.Ytgofljmnlfnlnaa
/-- A row as it is handed back. -/
def rowI (l : List Int) : TV := if l.length = 0 then .nilSl else .sl (ints l) l.length false
theorem rowI_row (l : List Int) : IsRow ic (rowI l) l := by
  unfold rowI
  split
  · rename_i h; exact .inl ⟨rfl, List.length_eq_zero_iff.1 h⟩
  · exact .inr ⟨false, by rw [ic_ints]⟩
theorem rowI_ne {l : List Int} (h : l.length ≠ 0) : rowI l = .sl (ints l) l.length false := by unfold rowI; rw [if_neg h]
theorem setN_t {k s : Nat} (h : s.testBit k = true) : setN (k + 1) s = setN k s ++ [k] := by simp [setN, List.range_succ, List.filter_append, h]
theorem setN_f {k s : Nat} (h : s.testBit k = false) : setN (k + 1) s = setN k s := by simp [setN, List.range_succ, List.filter_append, h]
theorem setN_len (k s : Nat) : (setN k s).length ≤ k := by
  have := List.length_filter_le s.testBit (List.range k)
  simpa [setN] using this
theorem nI_snoc (S : List Nat) (k : Nat) : nI (S ++ [k]) = nI S ++ [(k : Int)] := by simp [nI]
theorem nI_len (S : List Nat) : (nI S).length = S.length := List.length_map _
theorem before_end : ∀ {a b : List Int}, a = [] ∨ b = [] → before a b = decide (a.length < b.length)
  | [], [], _ => rfl
  | [], _ :: _, _ => by simp [before]
  | _ :: _, [], _ => by simp [before]
  | _ :: _, _ :: _, h => by rcases h with h | h <;> cases h
theorem selN_setN_t {L : List Mk} {k s : Nat} {x : Mk} (h : s.testBit k = true) (hx : L[k]? = some x) : selN L (setN (k + 1) s) = selN L (setN k s) ++ [x] := by
  rw [setN_t h]; unfold selN; rw [List.filterMap_append]; simp [hx]
theorem selN_setN_f {L : List Mk} {k s : Nat} (h : s.testBit k = false) : selN L (setN (k + 1) s) = selN L (setN k s) := by rw [setN_f h]
theorem selN_len {L : List Mk} (s : Nat) : ∀ {k : Nat}, k ≤ L.length → (selN L (setN k s)).length = (setN k s).length
  | 0, _ => rfl
  | k + 1, h => by
    have ih := selN_len (L := L) s (k := k) (by omega)
    cases ht : s.testBit k with
    | false => rw [selN_setN_f ht, setN_f ht, ih]
    | true => rw [selN_setN_t ht (List.getElem?_eq_getElem (by omega)), setN_t ht]; simp [ih]
theorem selN_ok {L : List Mk} {S : List Nat} (h : mksOk L = true) : mksOk (selN L S) = true := by
  simp only [mksOk, List.all_eq_true] at h ⊢
  exact fun x hx => h x (selN_sub hx)
end Go.Oc
namespace Go.Proofs.Ytgofljmnlfnlnaa
open Go.RowKit Go.Pm Go.Oc
set_option maxRecDepth 100000
set_option linter.unusedVariables false
set_option maxHeartbeats 4000000

theorem Members_c (s n : Nat) (hn : n ≤ 62) : PCalls Try.prog 37 [.int .i64 s, .int .i64 n] (rowI (nI (setN n s))) := by
  refine pcalls_by Try.mixes spB3_ok (fn := Try.f37) Try.func37 rfl (by kernel_rfl) (by show 2 ≤ _; decide) ?_
  simp (decide := true) (maxSteps := 4000000) only [go_sem, Nat.reduceAdd, Nat.reduceSub, Nat.reduceMul, Nat.reduceDiv, Nat.reduceMod, Nat.reduceLT, Nat.reduceLeDiff, Nat.reduceEqDiff, Nat.reduceBEq, Nat.reduceBNe, Nat.reduceGT, Int.reduceAdd, Int.reduceSub, Int.reduceMul, Int.reduceNeg, Int.reduceLT, Int.reduceLE, Int.reduceEq, Int.reduceNe, Int.reduceBEq, Int.reduceBNe, Int.reduceToNat, Int.reduceGT, Int.reduceGE, ↓reduceIte, decide_true, decide_false, eq_self, Nat.mul_one, Nat.zero_mul, Nat.one_mul, Int.le_refl, Nat.le_refl, Int.cast_ofNat_Int, Try.f37]
  refine pwpC_loopU (A := { k : Nat // k ≤ n }) [0, 1] (fun k => [(6, .t (.int .i64 k.1)), (5, .own (ints (nI (setN k.1 s))) (setN k.1 s).length 0)]) (fun k => [(0, .tok (setN k.1 s).length 3)]) (fun k => n - k.1) ⟨0, by omega⟩ (by decide) (fun _ => by rfl) ?_ fun Q1 hQ1 ⟨k, hk⟩ I1 hI1 => ?_
  · simp (decide := true) (maxSteps := 4000000) only [go_sem, Nat.reduceAdd, Nat.reduceSub, Nat.reduceMul, Nat.reduceDiv, Nat.reduceMod, Nat.reduceLT, Nat.reduceLeDiff, Nat.reduceEqDiff, Nat.reduceBEq, Nat.reduceBNe, Nat.reduceGT, Int.reduceAdd, Int.reduceSub, Int.reduceMul, Int.reduceNeg, Int.reduceLT, Int.reduceLE, Int.reduceEq, Int.reduceNe, Int.reduceBEq, Int.reduceBNe, Int.reduceToNat, Int.reduceGT, Int.reduceGE, ↓reduceIte, decide_true, decide_false, eq_self, Nat.mul_one, Nat.zero_mul, Nat.one_mul, Int.le_refl, Nat.le_refl, Int.cast_ofNat_Int]
    exact ⟨⟨rfl, rfl⟩, rfl⟩
  · by_cases hlt : (k : Int) < n
    · have hc1 : IntKind.i64.wrap (k + 1) = ((k + 1 : Nat) : Int) := by rw [wrap_in (by omega) (by omega)]; omega
      have c1 : 0 ≤ (s : Int) ∧ 0 ≤ (k : Int) ∧ (k : Int) < 64 := by omega
      have hle := setN_len k s
      have hr : ((setN k s).length + 1) * 8 ≤ 140737488355328 := by omega
      have e2 : (ints (nI (setN k s))).length = (setN k s).length := by rw [ints_len, nI_len]
      cases hb : s.testBit k with
      | false =>
        simp (decide := true) (maxSteps := 4000000) only [go_sem, Nat.reduceAdd, Nat.reduceSub, Nat.reduceMul, Nat.reduceDiv, Nat.reduceMod, Nat.reduceLT, Nat.reduceLeDiff, Nat.reduceEqDiff, Nat.reduceBEq, Nat.reduceBNe, Nat.reduceGT, Int.reduceAdd, Int.reduceSub, Int.reduceMul, Int.reduceNeg, Int.reduceLT, Int.reduceLE, Int.reduceEq, Int.reduceNe, Int.reduceBEq, Int.reduceBNe, Int.reduceToNat, Int.reduceGT, Int.reduceGE, ↓reduceIte, decide_true, decide_false, eq_self, Nat.mul_one, Nat.zero_mul, Nat.one_mul, Int.le_refl, Nat.le_refl, Int.cast_ofNat_Int, hlt, c1, hb]
        refine hI1 _ ⟨k + 1, by omega⟩ (by simp only; omega) ?_
        simp (decide := true) (maxSteps := 4000000) only [go_sem, Nat.reduceAdd, Nat.reduceSub, Nat.reduceMul, Nat.reduceDiv, Nat.reduceMod, Nat.reduceLT, Nat.reduceLeDiff, Nat.reduceEqDiff, Nat.reduceBEq, Nat.reduceBNe, Nat.reduceGT, Int.reduceAdd, Int.reduceSub, Int.reduceMul, Int.reduceNeg, Int.reduceLT, Int.reduceLE, Int.reduceEq, Int.reduceNe, Int.reduceBEq, Int.reduceBNe, Int.reduceToNat, Int.reduceGT, Int.reduceGE, ↓reduceIte, decide_true, decide_false, eq_self, Nat.mul_one, Nat.zero_mul, Nat.one_mul, Int.le_refl, Nat.le_refl, Int.cast_ofNat_Int, hc1, setN_f hb]
      | true =>
        simp (decide := true) (maxSteps := 4000000) only [go_sem, Nat.reduceAdd, Nat.reduceSub, Nat.reduceMul, Nat.reduceDiv, Nat.reduceMod, Nat.reduceLT, Nat.reduceLeDiff, Nat.reduceEqDiff, Nat.reduceBEq, Nat.reduceBNe, Nat.reduceGT, Int.reduceAdd, Int.reduceSub, Int.reduceMul, Int.reduceNeg, Int.reduceLT, Int.reduceLE, Int.reduceEq, Int.reduceNe, Int.reduceBEq, Int.reduceBNe, Int.reduceToNat, Int.reduceGT, Int.reduceGE, ↓reduceIte, decide_true, decide_false, eq_self, Nat.mul_one, Nat.zero_mul, Nat.one_mul, Int.le_refl, Nat.le_refl, Int.cast_ofNat_Int, hlt, c1, hb, hr, e2]
        refine hI1 _ ⟨k + 1, by omega⟩ (by simp only; omega) ?_
        simp (decide := true) (maxSteps := 4000000) only [go_sem, Nat.reduceAdd, Nat.reduceSub, Nat.reduceMul, Nat.reduceDiv, Nat.reduceMod, Nat.reduceLT, Nat.reduceLeDiff, Nat.reduceEqDiff, Nat.reduceBEq, Nat.reduceBNe, Nat.reduceGT, Int.reduceAdd, Int.reduceSub, Int.reduceMul, Int.reduceNeg, Int.reduceLT, Int.reduceLE, Int.reduceEq, Int.reduceNe, Int.reduceBEq, Int.reduceBNe, Int.reduceToNat, Int.reduceGT, Int.reduceGE, ↓reduceIte, decide_true, decide_false, eq_self, Nat.mul_one, Nat.zero_mul, Nat.one_mul, Int.le_refl, Nat.le_refl, Int.cast_ofNat_Int, hc1, setN_t hb, nI_snoc, ints_snoc, List.length_append]
    · have hkn : k = n := by omega
      subst hkn
      simp (decide := true) (maxSteps := 4000000) only [go_sem, Nat.reduceAdd, Nat.reduceSub, Nat.reduceMul, Nat.reduceDiv, Nat.reduceMod, Nat.reduceLT, Nat.reduceLeDiff, Nat.reduceEqDiff, Nat.reduceBEq, Nat.reduceBNe, Nat.reduceGT, Int.reduceAdd, Int.reduceSub, Int.reduceMul, Int.reduceNeg, Int.reduceLT, Int.reduceLE, Int.reduceEq, Int.reduceNe, Int.reduceBEq, Int.reduceBNe, Int.reduceToNat, Int.reduceGT, Int.reduceGE, ↓reduceIte, decide_true, decide_false, eq_self, Nat.mul_one, Nat.zero_mul, Nat.one_mul, Int.le_refl, Nat.le_refl, Int.cast_ofNat_Int, hlt]
      refine hQ1 _ _ ?_
      simp (decide := true) (maxSteps := 4000000) only [go_sem, Nat.reduceAdd, Nat.reduceSub, Nat.reduceMul, Nat.reduceDiv, Nat.reduceMod, Nat.reduceLT, Nat.reduceLeDiff, Nat.reduceEqDiff, Nat.reduceBEq, Nat.reduceBNe, Nat.reduceGT, Int.reduceAdd, Int.reduceSub, Int.reduceMul, Int.reduceNeg, Int.reduceLT, Int.reduceLE, Int.reduceEq, Int.reduceNe, Int.reduceBEq, Int.reduceBNe, Int.reduceToNat, Int.reduceGT, Int.reduceGE, ↓reduceIte, decide_true, decide_false, eq_self, Nat.mul_one, Nat.zero_mul, Nat.one_mul, Int.le_refl, Nat.le_refl, Int.cast_ofNat_Int, rowI, nI_len]
noncomputable def gMembers : List TV → Option TV
  | [.int .i64 s, .int .i64 n] => if 0 ≤ s ∧ 0 ≤ n ∧ n ≤ 62 then some (rowI (nI (setN n.toNat s.toNat))) else none
  | _ => none
theorem gMembers_ok : ∀ xs r, gMembers xs = some r → PCalls Try.prog 37 xs r := by
  intro xs r h
  unfold gMembers at h
  split at h
  · split at h
    · rename_i s n hc; cases h
      have := Members_c s.toNat n.toNat (by omega)
      rwa [Int.toNat_of_nonneg hc.1, Int.toNat_of_nonneg hc.2.1] at this
    · cases h
  · cases h
attribute [go_sem] gMembers
theorem Before_c (a b : List Int) (fa fb : Bool) (ha : a.length ≤ 9223372036854775806) (hb : b.length ≤ 9223372036854775806) : PCalls Try.prog 38 [.sl (ints a) a.length fa, .sl (ints b) b.length fb] (.bool (before a b)) := by
  refine pcalls_by Try.mixes noSpec_ok (fn := Try.f38) Try.func38 rfl (by kernel_rfl) (by show 2 ≤ _; decide) ?_
  simp (decide := true) (maxSteps := 4000000) only [go_sem, Nat.reduceAdd, Nat.reduceSub, Nat.reduceMul, Nat.reduceDiv, Nat.reduceMod, Nat.reduceLT, Nat.reduceLeDiff, Nat.reduceEqDiff, Nat.reduceBEq, Nat.reduceBNe, Nat.reduceGT, Int.reduceAdd, Int.reduceSub, Int.reduceMul, Int.reduceNeg, Int.reduceLT, Int.reduceLE, Int.reduceEq, Int.reduceNe, Int.reduceBEq, Int.reduceBNe, Int.reduceToNat, Int.reduceGT, Int.reduceGE, ↓reduceIte, decide_true, decide_false, eq_self, Nat.mul_one, Nat.zero_mul, Nat.one_mul, Int.le_refl, Nat.le_refl, Int.cast_ofNat_Int, Try.f38]
  refine pwpC_loopU (A := { k : Nat // k ≤ min a.length b.length ∧ before a b = before (a.drop k) (b.drop k) }) [0, 1] (fun k => [(5, .t (.int .i64 k.1))]) (fun k => []) (fun k => min a.length b.length - k.1) ⟨0, by omega, rfl⟩ (by decide) (fun _ => by rfl) ?_ fun Q1 hQ1 ⟨k, hk, hbf⟩ I1 hI1 => ?_
  · simp (decide := true) (maxSteps := 4000000) only [go_sem, Nat.reduceAdd, Nat.reduceSub, Nat.reduceMul, Nat.reduceDiv, Nat.reduceMod, Nat.reduceLT, Nat.reduceLeDiff, Nat.reduceEqDiff, Nat.reduceBEq, Nat.reduceBNe, Nat.reduceGT, Int.reduceAdd, Int.reduceSub, Int.reduceMul, Int.reduceNeg, Int.reduceLT, Int.reduceLE, Int.reduceEq, Int.reduceNe, Int.reduceBEq, Int.reduceBNe, Int.reduceToNat, Int.reduceGT, Int.reduceGE, ↓reduceIte, decide_true, decide_false, eq_self, Nat.mul_one, Nat.zero_mul, Nat.one_mul, Int.le_refl, Nat.le_refl, Int.cast_ofNat_Int]
  · by_cases hlt : (k : Int) < min (a.length : Int) b.length
    · have hc1 : IntKind.i64.wrap (k + 1) = ((k + 1 : Nat) : Int) := by rw [wrap_in (by omega) (by omega)]; omega
      have hka : (k : Int) < a.length := by omega
      have hkb : (k : Int) < b.length := by omega
      obtain ⟨x, hx⟩ := get_lt hka
      obtain ⟨y, hy⟩ := get_lt hkb
      have da : a.drop k = x :: a.drop (k + 1) := by rw [List.drop_eq_getElem_cons (by omega)]; rw [List.getElem?_eq_getElem (by omega)] at hx; cases hx; rfl
      have db : b.drop k = y :: b.drop (k + 1) := by rw [List.drop_eq_getElem_cons (by omega)]; rw [List.getElem?_eq_getElem (by omega)] at hy; cases hy; rfl
      have ia := ints_at hx
      have ib := ints_at hy
      rw [Nat.mul_one] at ia ib
      rw [da, db] at hbf
      simp only [before] at hbf
      by_cases h1 : x < y
      · rw [if_pos h1] at hbf
        simp (decide := true) (maxSteps := 4000000) only [go_sem, Nat.reduceAdd, Nat.reduceSub, Nat.reduceMul, Nat.reduceDiv, Nat.reduceMod, Nat.reduceLT, Nat.reduceLeDiff, Nat.reduceEqDiff, Nat.reduceBEq, Nat.reduceBNe, Nat.reduceGT, Int.reduceAdd, Int.reduceSub, Int.reduceMul, Int.reduceNeg, Int.reduceLT, Int.reduceLE, Int.reduceEq, Int.reduceNe, Int.reduceBEq, Int.reduceBNe, Int.reduceToNat, Int.reduceGT, Int.reduceGE, ↓reduceIte, decide_true, decide_false, eq_self, Nat.mul_one, Nat.zero_mul, Nat.one_mul, Int.le_refl, Nat.le_refl, Int.cast_ofNat_Int, hlt, hka, hkb, ia, ib, h1, hbf]
        try (refine hQ1 _ _ ?_; simp (decide := true) (maxSteps := 4000000) only [go_sem, Nat.reduceAdd, Nat.reduceSub, Nat.reduceMul, Nat.reduceDiv, Nat.reduceMod, Nat.reduceLT, Nat.reduceLeDiff, Nat.reduceEqDiff, Nat.reduceBEq, Nat.reduceBNe, Nat.reduceGT, Int.reduceAdd, Int.reduceSub, Int.reduceMul, Int.reduceNeg, Int.reduceLT, Int.reduceLE, Int.reduceEq, Int.reduceNe, Int.reduceBEq, Int.reduceBNe, Int.reduceToNat, Int.reduceGT, Int.reduceGE, ↓reduceIte, decide_true, decide_false, eq_self, Nat.mul_one, Nat.zero_mul, Nat.one_mul, Int.le_refl, Nat.le_refl, Int.cast_ofNat_Int, hbf])
      · rw [if_neg h1] at hbf
        by_cases h2 : y < x
        · rw [if_pos h2] at hbf
          have h2' : x > y := h2
          simp (decide := true) (maxSteps := 4000000) only [go_sem, Nat.reduceAdd, Nat.reduceSub, Nat.reduceMul, Nat.reduceDiv, Nat.reduceMod, Nat.reduceLT, Nat.reduceLeDiff, Nat.reduceEqDiff, Nat.reduceBEq, Nat.reduceBNe, Nat.reduceGT, Int.reduceAdd, Int.reduceSub, Int.reduceMul, Int.reduceNeg, Int.reduceLT, Int.reduceLE, Int.reduceEq, Int.reduceNe, Int.reduceBEq, Int.reduceBNe, Int.reduceToNat, Int.reduceGT, Int.reduceGE, ↓reduceIte, decide_true, decide_false, eq_self, Nat.mul_one, Nat.zero_mul, Nat.one_mul, Int.le_refl, Nat.le_refl, Int.cast_ofNat_Int, hlt, hka, hkb, ia, ib, h1, h2', hbf]
          try (refine hQ1 _ _ ?_; simp (decide := true) (maxSteps := 4000000) only [go_sem, Nat.reduceAdd, Nat.reduceSub, Nat.reduceMul, Nat.reduceDiv, Nat.reduceMod, Nat.reduceLT, Nat.reduceLeDiff, Nat.reduceEqDiff, Nat.reduceBEq, Nat.reduceBNe, Nat.reduceGT, Int.reduceAdd, Int.reduceSub, Int.reduceMul, Int.reduceNeg, Int.reduceLT, Int.reduceLE, Int.reduceEq, Int.reduceNe, Int.reduceBEq, Int.reduceBNe, Int.reduceToNat, Int.reduceGT, Int.reduceGE, ↓reduceIte, decide_true, decide_false, eq_self, Nat.mul_one, Nat.zero_mul, Nat.one_mul, Int.le_refl, Nat.le_refl, Int.cast_ofNat_Int, hbf])
        · rw [if_neg h2] at hbf
          have h2' : ¬ x > y := h2
          simp (decide := true) (maxSteps := 4000000) only [go_sem, Nat.reduceAdd, Nat.reduceSub, Nat.reduceMul, Nat.reduceDiv, Nat.reduceMod, Nat.reduceLT, Nat.reduceLeDiff, Nat.reduceEqDiff, Nat.reduceBEq, Nat.reduceBNe, Nat.reduceGT, Int.reduceAdd, Int.reduceSub, Int.reduceMul, Int.reduceNeg, Int.reduceLT, Int.reduceLE, Int.reduceEq, Int.reduceNe, Int.reduceBEq, Int.reduceBNe, Int.reduceToNat, Int.reduceGT, Int.reduceGE, ↓reduceIte, decide_true, decide_false, eq_self, Nat.mul_one, Nat.zero_mul, Nat.one_mul, Int.le_refl, Nat.le_refl, Int.cast_ofNat_Int, hlt, hka, hkb, ia, ib, h1, h2']
          refine hI1 _ ⟨k + 1, by omega, hbf⟩ (by simp only; omega) ?_
          simp (decide := true) (maxSteps := 4000000) only [go_sem, Nat.reduceAdd, Nat.reduceSub, Nat.reduceMul, Nat.reduceDiv, Nat.reduceMod, Nat.reduceLT, Nat.reduceLeDiff, Nat.reduceEqDiff, Nat.reduceBEq, Nat.reduceBNe, Nat.reduceGT, Int.reduceAdd, Int.reduceSub, Int.reduceMul, Int.reduceNeg, Int.reduceLT, Int.reduceLE, Int.reduceEq, Int.reduceNe, Int.reduceBEq, Int.reduceBNe, Int.reduceToNat, Int.reduceGT, Int.reduceGE, ↓reduceIte, decide_true, decide_false, eq_self, Nat.mul_one, Nat.zero_mul, Nat.one_mul, Int.le_refl, Nat.le_refl, Int.cast_ofNat_Int, hc1]
    · simp (decide := true) (maxSteps := 4000000) only [go_sem, Nat.reduceAdd, Nat.reduceSub, Nat.reduceMul, Nat.reduceDiv, Nat.reduceMod, Nat.reduceLT, Nat.reduceLeDiff, Nat.reduceEqDiff, Nat.reduceBEq, Nat.reduceBNe, Nat.reduceGT, Int.reduceAdd, Int.reduceSub, Int.reduceMul, Int.reduceNeg, Int.reduceLT, Int.reduceLE, Int.reduceEq, Int.reduceNe, Int.reduceBEq, Int.reduceBNe, Int.reduceToNat, Int.reduceGT, Int.reduceGE, ↓reduceIte, decide_true, decide_false, eq_self, Nat.mul_one, Nat.zero_mul, Nat.one_mul, Int.le_refl, Nat.le_refl, Int.cast_ofNat_Int, hlt]
      refine hQ1 _ _ ?_
      have e : before a b = decide ((a.length : Int) < b.length) := by
        rw [hbf, before_end]
        · simp only [List.length_drop]
          rw [decide_eq_decide]
          omega
        · rcases Nat.le_total a.length b.length with h | h
          · exact .inl (List.drop_eq_nil_of_le (by omega))
          · exact .inr (List.drop_eq_nil_of_le (by omega))
      simp (decide := true) (maxSteps := 4000000) only [go_sem, Nat.reduceAdd, Nat.reduceSub, Nat.reduceMul, Nat.reduceDiv, Nat.reduceMod, Nat.reduceLT, Nat.reduceLeDiff, Nat.reduceEqDiff, Nat.reduceBEq, Nat.reduceBNe, Nat.reduceGT, Int.reduceAdd, Int.reduceSub, Int.reduceMul, Int.reduceNeg, Int.reduceLT, Int.reduceLE, Int.reduceEq, Int.reduceNe, Int.reduceBEq, Int.reduceBNe, Int.reduceToNat, Int.reduceGT, Int.reduceGE, ↓reduceIte, decide_true, decide_false, eq_self, Nat.mul_one, Nat.zero_mul, Nat.one_mul, Int.le_refl, Nat.le_refl, Int.cast_ofNat_Int, e]
noncomputable def gBefore : List TV → Option TV
  | [.sl cs n f, .sl cs' n' f'] => match unI cs, unI cs' with
    | some a, some b => if n = a.length ∧ n' = b.length ∧ a.length ≤ 62 ∧ b.length ≤ 62 then some (.bool (before a b)) else none
    | _, _ => none
  | _ => none
theorem gBefore_ok : ∀ xs r, gBefore xs = some r → PCalls Try.prog 38 xs r := by
  intro xs r h
  unfold gBefore at h
  split at h
  · split at h
    · rename_i a b ha hb
      split at h
      · rename_i hc; cases h
        have e1 := unI_some ha
        have e2 := unI_some hb
        rw [ic_ints] at e1 e2
        obtain ⟨rfl, rfl, h1, h2⟩ := hc
        rw [e1, e2]
        exact Before_c a b _ _ (by omega) (by omega)
      · cases h
    · cases h
  · cases h
attribute [go_sem] gBefore
theorem rSome_c (L : List Mk) (full : Bool) (s : Nat) (hl : L.length ≤ 62) : PCalls Try.prog 57 [.sl (L.flatMap Mk.cs) L.length full, .int .i64 s] (if (setN L.length s).length = 0 then .nilSl else .sl ((selN L (setN L.length s)).flatMap Mk.cs) (setN L.length s).length false) := by
  refine pcalls_by Try.mixes spB3_ok (fn := Try.f57) Try.func57 rfl (by kernel_rfl) (by show 2 ≤ _; decide) ?_
  simp (decide := true) (maxSteps := 4000000) only [go_sem, Nat.reduceAdd, Nat.reduceSub, Nat.reduceMul, Nat.reduceDiv, Nat.reduceMod, Nat.reduceLT, Nat.reduceLeDiff, Nat.reduceEqDiff, Nat.reduceBEq, Nat.reduceBNe, Nat.reduceGT, Int.reduceAdd, Int.reduceSub, Int.reduceMul, Int.reduceNeg, Int.reduceLT, Int.reduceLE, Int.reduceEq, Int.reduceNe, Int.reduceBEq, Int.reduceBNe, Int.reduceToNat, Int.reduceGT, Int.reduceGE, ↓reduceIte, decide_true, decide_false, eq_self, Nat.mul_one, Nat.zero_mul, Nat.one_mul, Int.le_refl, Nat.le_refl, Int.cast_ofNat_Int, Try.f57]
  refine pwpC_loopU (A := { k : Nat // k ≤ L.length }) [0, 1] (fun k => [(6, .t (.int .i64 k.1)), (5, .own ((selN L (setN k.1 s)).flatMap Mk.cs) (setN k.1 s).length 0)]) (fun k => [(0, .tok (setN k.1 s).length 114)]) (fun k => L.length - k.1) ⟨0, by omega⟩ (by decide) (fun _ => by rfl) ?_ fun Q1 hQ1 ⟨k, hk⟩ I1 hI1 => ?_
  · simp (decide := true) (maxSteps := 4000000) only [go_sem, Nat.reduceAdd, Nat.reduceSub, Nat.reduceMul, Nat.reduceDiv, Nat.reduceMod, Nat.reduceLT, Nat.reduceLeDiff, Nat.reduceEqDiff, Nat.reduceBEq, Nat.reduceBNe, Nat.reduceGT, Int.reduceAdd, Int.reduceSub, Int.reduceMul, Int.reduceNeg, Int.reduceLT, Int.reduceLE, Int.reduceEq, Int.reduceNe, Int.reduceBEq, Int.reduceBNe, Int.reduceToNat, Int.reduceGT, Int.reduceGE, ↓reduceIte, decide_true, decide_false, eq_self, Nat.mul_one, Nat.zero_mul, Nat.one_mul, Int.le_refl, Nat.le_refl, Int.cast_ofNat_Int]
    exact ⟨⟨rfl, rfl⟩, rfl⟩
  · by_cases hlt : (k : Int) < L.length
    · obtain ⟨x, hx⟩ := get_lt hlt
      have hd := flat_at Mk.cs (n := 2) (fun _ => rfl) hx
      have hc1 : IntKind.i64.wrap (k + 1) = ((k + 1 : Nat) : Int) := by rw [wrap_in (by omega) (by omega)]; omega
      have c1 : 0 ≤ (s : Int) ∧ 0 ≤ (k : Int) ∧ (k : Int) < 64 := by omega
      have hle := setN_len k s
      have hr : ((setN k s).length + 1) * 16 ≤ 140737488355328 := by omega
      have e2 : (List.flatMap Mk.cs (selN L (setN k s))).length = (setN k s).length * 2 := by rw [flat_len Mk.cs (n := 2) (fun _ => rfl), selN_len s (by omega)]
      cases hb : s.testBit k with
      | false =>
        simp (decide := true) (maxSteps := 4000000) only [go_sem, Nat.reduceAdd, Nat.reduceSub, Nat.reduceMul, Nat.reduceDiv, Nat.reduceMod, Nat.reduceLT, Nat.reduceLeDiff, Nat.reduceEqDiff, Nat.reduceBEq, Nat.reduceBNe, Nat.reduceGT, Int.reduceAdd, Int.reduceSub, Int.reduceMul, Int.reduceNeg, Int.reduceLT, Int.reduceLE, Int.reduceEq, Int.reduceNe, Int.reduceBEq, Int.reduceBNe, Int.reduceToNat, Int.reduceGT, Int.reduceGE, ↓reduceIte, decide_true, decide_false, eq_self, Nat.mul_one, Nat.zero_mul, Nat.one_mul, Int.le_refl, Nat.le_refl, Int.cast_ofNat_Int, hlt, c1, hb]
        refine hI1 _ ⟨k + 1, by omega⟩ (by simp only; omega) ?_
        simp (decide := true) (maxSteps := 4000000) only [go_sem, Nat.reduceAdd, Nat.reduceSub, Nat.reduceMul, Nat.reduceDiv, Nat.reduceMod, Nat.reduceLT, Nat.reduceLeDiff, Nat.reduceEqDiff, Nat.reduceBEq, Nat.reduceBNe, Nat.reduceGT, Int.reduceAdd, Int.reduceSub, Int.reduceMul, Int.reduceNeg, Int.reduceLT, Int.reduceLE, Int.reduceEq, Int.reduceNe, Int.reduceBEq, Int.reduceBNe, Int.reduceToNat, Int.reduceGT, Int.reduceGE, ↓reduceIte, decide_true, decide_false, eq_self, Nat.mul_one, Nat.zero_mul, Nat.one_mul, Int.le_refl, Nat.le_refl, Int.cast_ofNat_Int, hc1, selN_setN_f hb, setN_f hb]
      | true =>
        simp (decide := true) (maxSteps := 4000000) only [go_sem, Nat.reduceAdd, Nat.reduceSub, Nat.reduceMul, Nat.reduceDiv, Nat.reduceMod, Nat.reduceLT, Nat.reduceLeDiff, Nat.reduceEqDiff, Nat.reduceBEq, Nat.reduceBNe, Nat.reduceGT, Int.reduceAdd, Int.reduceSub, Int.reduceMul, Int.reduceNeg, Int.reduceLT, Int.reduceLE, Int.reduceEq, Int.reduceNe, Int.reduceBEq, Int.reduceBNe, Int.reduceToNat, Int.reduceGT, Int.reduceGE, ↓reduceIte, decide_true, decide_false, eq_self, Nat.mul_one, Nat.zero_mul, Nat.one_mul, Int.le_refl, Nat.le_refl, Int.cast_ofNat_Int, hlt, hd, Mk.cs, c1, hb, hr, e2]
        refine hI1 _ ⟨k + 1, by omega⟩ (by simp only; omega) ?_
        have hsel := selN_setN_t hb hx
        rw [setN_t hb] at hsel
        simp (decide := true) (maxSteps := 4000000) only [go_sem, Nat.reduceAdd, Nat.reduceSub, Nat.reduceMul, Nat.reduceDiv, Nat.reduceMod, Nat.reduceLT, Nat.reduceLeDiff, Nat.reduceEqDiff, Nat.reduceBEq, Nat.reduceBNe, Nat.reduceGT, Int.reduceAdd, Int.reduceSub, Int.reduceMul, Int.reduceNeg, Int.reduceLT, Int.reduceLE, Int.reduceEq, Int.reduceNe, Int.reduceBEq, Int.reduceBNe, Int.reduceToNat, Int.reduceGT, Int.reduceGE, ↓reduceIte, decide_true, decide_false, eq_self, Nat.mul_one, Nat.zero_mul, Nat.one_mul, Int.le_refl, Nat.le_refl, Int.cast_ofNat_Int, hc1, setN_t hb, hsel, List.flatMap_append, List.length_append, Mk.cs]
    · have hkn : k = L.length := by omega
      subst hkn
      simp (decide := true) (maxSteps := 4000000) only [go_sem, Nat.reduceAdd, Nat.reduceSub, Nat.reduceMul, Nat.reduceDiv, Nat.reduceMod, Nat.reduceLT, Nat.reduceLeDiff, Nat.reduceEqDiff, Nat.reduceBEq, Nat.reduceBNe, Nat.reduceGT, Int.reduceAdd, Int.reduceSub, Int.reduceMul, Int.reduceNeg, Int.reduceLT, Int.reduceLE, Int.reduceEq, Int.reduceNe, Int.reduceBEq, Int.reduceBNe, Int.reduceToNat, Int.reduceGT, Int.reduceGE, ↓reduceIte, decide_true, decide_false, eq_self, Nat.mul_one, Nat.zero_mul, Nat.one_mul, Int.le_refl, Nat.le_refl, Int.cast_ofNat_Int, hlt]
      refine hQ1 _ _ ?_
      simp (decide := true) (maxSteps := 4000000) only [go_sem, Nat.reduceAdd, Nat.reduceSub, Nat.reduceMul, Nat.reduceDiv, Nat.reduceMod, Nat.reduceLT, Nat.reduceLeDiff, Nat.reduceEqDiff, Nat.reduceBEq, Nat.reduceBNe, Nat.reduceGT, Int.reduceAdd, Int.reduceSub, Int.reduceMul, Int.reduceNeg, Int.reduceLT, Int.reduceLE, Int.reduceEq, Int.reduceNe, Int.reduceBEq, Int.reduceBNe, Int.reduceToNat, Int.reduceGT, Int.reduceGE, ↓reduceIte, decide_true, decide_false, eq_self, Nat.mul_one, Nat.zero_mul, Nat.one_mul, Int.le_refl, Nat.le_refl, Int.cast_ofNat_Int]
noncomputable def grSome : List TV → Option TV
  | [.sl cs n f, .int .i64 s] => match unMks cs with
    | some L => if n = L.length ∧ L.length ≤ 62 ∧ 0 ≤ s then some (if (setN L.length s.toNat).length = 0 then .nilSl else .sl ((selN L (setN L.length s.toNat)).flatMap Mk.cs) (setN L.length s.toNat).length false) else none
    | none => none
  | _ => none
theorem grSome_ok : ∀ xs r, grSome xs = some r → PCalls Try.prog 57 xs r := by
  intro xs r h
  unfold grSome at h
  split at h
  · split at h
    · rename_i s _ L hL
      split at h
      · rename_i hc; cases h
        rw [unMks_some hL]
        obtain ⟨rfl, h1, h2⟩ := hc
        have := rSome_c L (by assumption) s.toNat h1
        rwa [Int.toNat_of_nonneg h2] at this
      · cases h
    · cases h
  · cases h
attribute [go_sem] grSome
noncomputable def spF1 : Pm.Spec := ((spR3.one 37 gMembers).one 38 gBefore).one 57 grSome
@[go_sem] theorem spF1_p (f : FuncId) (xs : List TV) : spF1.p f xs = Pm.Spec.p (((spR3.one 37 gMembers).one 38 gBefore).one 57 grSome) f xs := rfl
@[go_sem] theorem spF1_h (f : FuncId) (ps : List PV) (hl : List PO) : spF1.h f ps hl = Pm.Spec.h (((spR3.one 37 gMembers).one 38 gBefore).one 57 grSome) f ps hl := rfl
@[go_sem] theorem spF1_fz (f : FuncId) : spF1.fz f = Pm.Spec.fz (((spR3.one 37 gMembers).one 38 gBefore).one 57 grSome) f := rfl
@[go_sem] theorem spF1_fr (f : FuncId) : spF1.fr f = Pm.Spec.fr (((spR3.one 37 gMembers).one 38 gBefore).one 57 grSome) f := rfl
@[go_sem] theorem spF1_mu (t : TypeId) : spF1.mu t = Pm.Spec.mu (((spR3.one 37 gMembers).one 38 gBefore).one 57 grSome) t := rfl
theorem spF1_ok : SpecOk Try.prog spF1 := Spec.one_ok grSome_ok (Spec.one_ok gBefore_ok (Spec.one_ok gMembers_ok spR3_ok))

theorem rFalse_c (v : Vial) {l : List Rd} {s : TV} (hs : IsRow Rd.cs s l) : PCalls Try.prog 24 [v.t, s] (.tup [(falseP v l).1, .int .i64 (falseP v l).2]) := by
  refine pcalls_by Try.mixes spF1_ok (fn := Try.f24) Try.func24 rfl (by kernel_rfl) (by show 2 ≤ _; decide) ?_
  by_cases hk : asked v l = 0
  · have hrf := ref_false hk
    obtain ⟨hv, hr⟩ := asked_zero hk
    have hm := mksOk_mid hv hr
    have h8 := rdsOk_len hr
    have h100 : l.length ≤ 100 := by omega
    have h62 : l.length ≤ 62 := by omega
    have hml : (l.map mid).length = l.length := List.length_map _
    obtain ⟨full, rfl⟩ := hs.ne h8.1
    obtain ⟨N, hN⟩ : ∃ N, 2 ^ l.length = N := ⟨_, rfl⟩
    have hNb : 2 ≤ N ∧ N ≤ 256 := by
      rcases (show l.length = 1 ∨ l.length = 2 ∨ l.length = 3 ∨ l.length = 4 ∨ l.length = 5 ∨ l.length = 6 ∨ l.length = 7 ∨ l.length = 8 by omega) with e | e | e | e | e | e | e | e <;> rw [e] at hN <;> subst hN <;> decide
    have hlz : ¬ (l.length : Int) < 0 := by omega
    have h62i : (l.length : Int) ≤ 62 := by omega
    have hsh : IntKind.i64.wrap (1 * 2 ^ min l.length 64) = (N : Int) := by
      rcases (show l.length = 1 ∨ l.length = 2 ∨ l.length = 3 ∨ l.length = 4 ∨ l.length = 5 ∨ l.length = 6 ∨ l.length = 7 ∨ l.length = 8 by omega) with e | e | e | e | e | e | e | e <;> rw [e] at hN ⊢ <;> subst hN <;> rfl
    simp (decide := true) (maxSteps := 4000000) only [go_sem, Nat.reduceAdd, Nat.reduceSub, Nat.reduceMul, Nat.reduceDiv, Nat.reduceMod, Nat.reduceLT, Nat.reduceLeDiff, Nat.reduceEqDiff, Nat.reduceBEq, Nat.reduceBNe, Nat.reduceGT, Int.reduceAdd, Int.reduceSub, Int.reduceMul, Int.reduceNeg, Int.reduceLT, Int.reduceLE, Int.reduceEq, Int.reduceNe, Int.reduceBEq, Int.reduceBNe, Int.reduceToNat, Int.reduceGT, Int.reduceGE, ↓reduceIte, decide_true, decide_false, eq_self, Nat.mul_one, Nat.zero_mul, Nat.one_mul, Int.le_refl, Nat.le_refl, Int.cast_ofNat_Int, Try.f24, Vial.t, Vial.cs, hk, h8.1, h8.2, hm, List.length_map]
    rw [hN] at hrf
    refine pwpC_loopU (A := { k : Nat // k ≤ N - 1 }) [1, 2, 7] (fun k => [(9, .t (.int .i64 ((k.1 + 1 : Nat) : Int))), (8, .t (rowI (nI (refTo v (l.map mid) l.length k.1))))]) (fun k => []) (fun k => N - 1 - k.1) ⟨0, by omega⟩ (by decide) (fun _ => by rfl) ?_ fun Q1 hQ1 ⟨k, hkN⟩ I1 hI1 => ?_
    · simp (decide := true) (maxSteps := 4000000) only [go_sem, Nat.reduceAdd, Nat.reduceSub, Nat.reduceMul, Nat.reduceDiv, Nat.reduceMod, Nat.reduceLT, Nat.reduceLeDiff, Nat.reduceEqDiff, Nat.reduceBEq, Nat.reduceBNe, Nat.reduceGT, Int.reduceAdd, Int.reduceSub, Int.reduceMul, Int.reduceNeg, Int.reduceLT, Int.reduceLE, Int.reduceEq, Int.reduceNe, Int.reduceBEq, Int.reduceBNe, Int.reduceToNat, Int.reduceGT, Int.reduceGE, ↓reduceIte, decide_true, decide_false, eq_self, Nat.mul_one, Nat.zero_mul, Nat.one_mul, Int.le_refl, Nat.le_refl, Int.cast_ofNat_Int]
      rfl
    · by_cases hlt : ((k + 1 : Nat) : Int) < N
      · have hkN' : k + 1 < 2 ^ l.length := by omega
        have hne := setN_ne (s := k + 1) (by omega) hkN'
        have hrs := refTo_succ v (l.map mid) l.length k
        unfold refStep at hrs
        simp only at hrs
        rw [show (List.range l.length).filter (k + 1).testBit = setN l.length (k + 1) from rfl] at hrs
        have hsl := selN_len (L := l.map mid) (k + 1) (k := l.length) (by omega)
        have hmS := selN_ok (S := setN l.length (k + 1)) hm
        have hSl := setN_len l.length (k + 1)
        have hS0 : ¬ (setN l.length (k + 1)).length = 0 := fun h => hne (List.length_eq_zero_iff.1 h)
        obtain ⟨S, hSe⟩ : ∃ S, setN l.length (k + 1) = S := ⟨_, rfl⟩
        rw [hSe] at hne hrs hsl hmS hSl hS0
        have h1S : 1 ≤ S.length := by omega
        have hS100 : S.length ≤ 100 := by omega
        have hS62 : S.length ≤ 62 := by omega
        have c1 : 0 ≤ ((k + 1 : Nat) : Int) := by omega
        have hc1 : IntKind.i64.wrap (((k + 1 : Nat) : Int) + 1) = ((k + 1 + 1 : Nat) : Int) := by rw [wrap_in (by omega) (by omega)]; omega
        have hown := rowI_ne (l := nI S) (by rw [nI_len]; omega)
        rw [nI_len] at hown
        cases hi : (tilts v (selN (l.map mid) S)).is with
        | true =>
          rw [hi] at hrs
          simp only [if_true] at hrs
          simp (decide := true) (maxSteps := 4000000) only [go_sem, Nat.reduceAdd, Nat.reduceSub, Nat.reduceMul, Nat.reduceDiv, Nat.reduceMod, Nat.reduceLT, Nat.reduceLeDiff, Nat.reduceEqDiff, Nat.reduceBEq, Nat.reduceBNe, Nat.reduceGT, Int.reduceAdd, Int.reduceSub, Int.reduceMul, Int.reduceNeg, Int.reduceLT, Int.reduceLE, Int.reduceEq, Int.reduceNe, Int.reduceBEq, Int.reduceBNe, Int.reduceToNat, Int.reduceGT, Int.reduceGE, ↓reduceIte, decide_true, decide_false, eq_self, Nat.mul_one, Nat.zero_mul, Nat.one_mul, Int.le_refl, Nat.le_refl, Int.cast_ofNat_Int, hlt, hlz, hsh, h62i, hml, hSe, List.length_map, h62, c1, hS0, hsl, h1S, hS100, hv, hmS, hi, hc1, Vial.cs, TZ.t, Span.t, Span.cs]
          refine hI1 _ ⟨k + 1, by omega⟩ (by simp only; omega) ?_
          simp (decide := true) (maxSteps := 4000000) only [go_sem, Nat.reduceAdd, Nat.reduceSub, Nat.reduceMul, Nat.reduceDiv, Nat.reduceMod, Nat.reduceLT, Nat.reduceLeDiff, Nat.reduceEqDiff, Nat.reduceBEq, Nat.reduceBNe, Nat.reduceGT, Int.reduceAdd, Int.reduceSub, Int.reduceMul, Int.reduceNeg, Int.reduceLT, Int.reduceLE, Int.reduceEq, Int.reduceNe, Int.reduceBEq, Int.reduceBNe, Int.reduceToNat, Int.reduceGT, Int.reduceGE, ↓reduceIte, decide_true, decide_false, eq_self, Nat.mul_one, Nat.zero_mul, Nat.one_mul, Int.le_refl, Nat.le_refl, Int.cast_ofNat_Int, hc1, hrs, Vial.cs]
        | false =>
          rw [hi] at hrs
          simp only [Bool.false_eq_true, if_false] at hrs
          by_cases hB : refTo v (l.map mid) l.length k = []
          · have hBr : rowI (nI (refTo v (l.map mid) l.length k)) = .nilSl := by rw [hB]; rfl
            rw [if_pos (.inl (by rw [hB]; rfl))] at hrs
            have hS0' : ((S.length : Int) == 0) = false := beq_int_f (by omega)
            simp (decide := true) (maxSteps := 4000000) only [go_sem, Nat.reduceAdd, Nat.reduceSub, Nat.reduceMul, Nat.reduceDiv, Nat.reduceMod, Nat.reduceLT, Nat.reduceLeDiff, Nat.reduceEqDiff, Nat.reduceBEq, Nat.reduceBNe, Nat.reduceGT, Int.reduceAdd, Int.reduceSub, Int.reduceMul, Int.reduceNeg, Int.reduceLT, Int.reduceLE, Int.reduceEq, Int.reduceNe, Int.reduceBEq, Int.reduceBNe, Int.reduceToNat, Int.reduceGT, Int.reduceGE, ↓reduceIte, decide_true, decide_false, eq_self, Nat.mul_one, Nat.zero_mul, Nat.one_mul, Int.le_refl, Nat.le_refl, Int.cast_ofNat_Int, hlt, hlz, hsh, h62i, hml, hSe, List.length_map, h62, c1, hS0, hS0', hsl, h1S, hS100, hv, hmS, hi, hc1, Vial.cs, TZ.t, Span.t, Span.cs, h62, hown, hBr]
            refine hI1 _ ⟨k + 1, by omega⟩ (by simp only; omega) ?_
            simp (decide := true) (maxSteps := 4000000) only [go_sem, Nat.reduceAdd, Nat.reduceSub, Nat.reduceMul, Nat.reduceDiv, Nat.reduceMod, Nat.reduceLT, Nat.reduceLeDiff, Nat.reduceEqDiff, Nat.reduceBEq, Nat.reduceBNe, Nat.reduceGT, Int.reduceAdd, Int.reduceSub, Int.reduceMul, Int.reduceNeg, Int.reduceLT, Int.reduceLE, Int.reduceEq, Int.reduceNe, Int.reduceBEq, Int.reduceBNe, Int.reduceToNat, Int.reduceGT, Int.reduceGE, ↓reduceIte, decide_true, decide_false, eq_self, Nat.mul_one, Nat.zero_mul, Nat.one_mul, Int.le_refl, Nat.le_refl, Int.cast_ofNat_Int, hc1, hrs, hown, Vial.cs]
          · have hB0 : ¬ (refTo v (l.map mid) l.length k).length = 0 := fun h => hB (List.length_eq_zero_iff.1 h)
            have hBr := rowI_ne (l := nI (refTo v (l.map mid) l.length k)) (by rw [nI_len]; exact hB0)
            have hBl : (refTo v (l.map mid) l.length k).length ≤ l.length := by
              rcases refTo_law v (l.map mid) l.length k (by omega) with h | h
              · exact absurd h.1 hB
              · exact rowN_len h.2.1
            rw [nI_len] at hBr
            generalize refTo v (l.map mid) l.length k = B at hrs hB hB0 hBr hBl ⊢
            have hB0' : ((B.length : Int) == 0) = false := beq_int_f (by omega)
            have hB62 : B.length ≤ 62 := by omega
            by_cases h1 : (S.length : Int) < B.length
            · rw [if_pos (.inr (.inl (by omega)))] at hrs
              simp (decide := true) (maxSteps := 4000000) only [go_sem, Nat.reduceAdd, Nat.reduceSub, Nat.reduceMul, Nat.reduceDiv, Nat.reduceMod, Nat.reduceLT, Nat.reduceLeDiff, Nat.reduceEqDiff, Nat.reduceBEq, Nat.reduceBNe, Nat.reduceGT, Int.reduceAdd, Int.reduceSub, Int.reduceMul, Int.reduceNeg, Int.reduceLT, Int.reduceLE, Int.reduceEq, Int.reduceNe, Int.reduceBEq, Int.reduceBNe, Int.reduceToNat, Int.reduceGT, Int.reduceGE, ↓reduceIte, decide_true, decide_false, eq_self, Nat.mul_one, Nat.zero_mul, Nat.one_mul, Int.le_refl, Nat.le_refl, Int.cast_ofNat_Int, hlt, hlz, hsh, h62i, hml, hSe, List.length_map, h62, c1, hS0, hsl, h1S, hS100, hv, hmS, hi, hc1, Vial.cs, TZ.t, Span.t, Span.cs, hown, hBr, hB0', hB62, hS62, nI_len, h1]
              refine hI1 _ ⟨k + 1, by omega⟩ (by simp only; omega) ?_
              simp (decide := true) (maxSteps := 4000000) only [go_sem, Nat.reduceAdd, Nat.reduceSub, Nat.reduceMul, Nat.reduceDiv, Nat.reduceMod, Nat.reduceLT, Nat.reduceLeDiff, Nat.reduceEqDiff, Nat.reduceBEq, Nat.reduceBNe, Nat.reduceGT, Int.reduceAdd, Int.reduceSub, Int.reduceMul, Int.reduceNeg, Int.reduceLT, Int.reduceLE, Int.reduceEq, Int.reduceNe, Int.reduceBEq, Int.reduceBNe, Int.reduceToNat, Int.reduceGT, Int.reduceGE, ↓reduceIte, decide_true, decide_false, eq_self, Nat.mul_one, Nat.zero_mul, Nat.one_mul, Int.le_refl, Nat.le_refl, Int.cast_ofNat_Int, hc1, hrs, hown, Vial.cs]
            · by_cases h2 : S.length = B.length
              · have h2' : ((S.length : Int) == (B.length : Int)) = true := beq_int_t (by omega)
                cases h3 : before (nI S) (nI B) with
                | true =>
                  rw [if_pos (.inr (.inr ⟨h2, h3⟩))] at hrs
                  simp (decide := true) (maxSteps := 4000000) only [go_sem, Nat.reduceAdd, Nat.reduceSub, Nat.reduceMul, Nat.reduceDiv, Nat.reduceMod, Nat.reduceLT, Nat.reduceLeDiff, Nat.reduceEqDiff, Nat.reduceBEq, Nat.reduceBNe, Nat.reduceGT, Int.reduceAdd, Int.reduceSub, Int.reduceMul, Int.reduceNeg, Int.reduceLT, Int.reduceLE, Int.reduceEq, Int.reduceNe, Int.reduceBEq, Int.reduceBNe, Int.reduceToNat, Int.reduceGT, Int.reduceGE, ↓reduceIte, decide_true, decide_false, eq_self, Nat.mul_one, Nat.zero_mul, Nat.one_mul, Int.le_refl, Nat.le_refl, Int.cast_ofNat_Int, hlt, hlz, hsh, h62i, hml, hSe, List.length_map, h62, c1, hS0, hsl, h1S, hS100, hv, hmS, hi, hc1, Vial.cs, TZ.t, Span.t, Span.cs, hown, hBr, hB0', hB62, hS62, nI_len, h1, h2', h3]
                  refine hI1 _ ⟨k + 1, by omega⟩ (by simp only; omega) ?_
                  simp (decide := true) (maxSteps := 4000000) only [go_sem, Nat.reduceAdd, Nat.reduceSub, Nat.reduceMul, Nat.reduceDiv, Nat.reduceMod, Nat.reduceLT, Nat.reduceLeDiff, Nat.reduceEqDiff, Nat.reduceBEq, Nat.reduceBNe, Nat.reduceGT, Int.reduceAdd, Int.reduceSub, Int.reduceMul, Int.reduceNeg, Int.reduceLT, Int.reduceLE, Int.reduceEq, Int.reduceNe, Int.reduceBEq, Int.reduceBNe, Int.reduceToNat, Int.reduceGT, Int.reduceGE, ↓reduceIte, decide_true, decide_false, eq_self, Nat.mul_one, Nat.zero_mul, Nat.one_mul, Int.le_refl, Nat.le_refl, Int.cast_ofNat_Int, hc1, hrs, hown, Vial.cs]
                | false =>
                  rw [if_neg (by rintro (h | h | ⟨_, h⟩); exact hB0 h; omega; rw [h3] at h; cases h)] at hrs
                  simp (decide := true) (maxSteps := 4000000) only [go_sem, Nat.reduceAdd, Nat.reduceSub, Nat.reduceMul, Nat.reduceDiv, Nat.reduceMod, Nat.reduceLT, Nat.reduceLeDiff, Nat.reduceEqDiff, Nat.reduceBEq, Nat.reduceBNe, Nat.reduceGT, Int.reduceAdd, Int.reduceSub, Int.reduceMul, Int.reduceNeg, Int.reduceLT, Int.reduceLE, Int.reduceEq, Int.reduceNe, Int.reduceBEq, Int.reduceBNe, Int.reduceToNat, Int.reduceGT, Int.reduceGE, ↓reduceIte, decide_true, decide_false, eq_self, Nat.mul_one, Nat.zero_mul, Nat.one_mul, Int.le_refl, Nat.le_refl, Int.cast_ofNat_Int, hlt, hlz, hsh, h62i, hml, hSe, List.length_map, h62, c1, hS0, hsl, h1S, hS100, hv, hmS, hi, hc1, Vial.cs, TZ.t, Span.t, Span.cs, hown, hBr, hB0', hB62, hS62, nI_len, h1, h2', h3]
                  refine hI1 _ ⟨k + 1, by omega⟩ (by simp only; omega) ?_
                  simp (decide := true) (maxSteps := 4000000) only [go_sem, Nat.reduceAdd, Nat.reduceSub, Nat.reduceMul, Nat.reduceDiv, Nat.reduceMod, Nat.reduceLT, Nat.reduceLeDiff, Nat.reduceEqDiff, Nat.reduceBEq, Nat.reduceBNe, Nat.reduceGT, Int.reduceAdd, Int.reduceSub, Int.reduceMul, Int.reduceNeg, Int.reduceLT, Int.reduceLE, Int.reduceEq, Int.reduceNe, Int.reduceBEq, Int.reduceBNe, Int.reduceToNat, Int.reduceGT, Int.reduceGE, ↓reduceIte, decide_true, decide_false, eq_self, Nat.mul_one, Nat.zero_mul, Nat.one_mul, Int.le_refl, Nat.le_refl, Int.cast_ofNat_Int, hc1, hrs, hBr, Vial.cs]
              · have h2' : ((S.length : Int) == (B.length : Int)) = false := beq_int_f (by omega)
                rw [if_neg (by rintro (h | h | ⟨h, _⟩); exact hB0 h; omega; exact h2 h)] at hrs
                simp (decide := true) (maxSteps := 4000000) only [go_sem, Nat.reduceAdd, Nat.reduceSub, Nat.reduceMul, Nat.reduceDiv, Nat.reduceMod, Nat.reduceLT, Nat.reduceLeDiff, Nat.reduceEqDiff, Nat.reduceBEq, Nat.reduceBNe, Nat.reduceGT, Int.reduceAdd, Int.reduceSub, Int.reduceMul, Int.reduceNeg, Int.reduceLT, Int.reduceLE, Int.reduceEq, Int.reduceNe, Int.reduceBEq, Int.reduceBNe, Int.reduceToNat, Int.reduceGT, Int.reduceGE, ↓reduceIte, decide_true, decide_false, eq_self, Nat.mul_one, Nat.zero_mul, Nat.one_mul, Int.le_refl, Nat.le_refl, Int.cast_ofNat_Int, hlt, hlz, hsh, h62i, hml, hSe, List.length_map, h62, c1, hS0, hsl, h1S, hS100, hv, hmS, hi, hc1, Vial.cs, TZ.t, Span.t, Span.cs, hown, hBr, hB0', hB62, hS62, nI_len, h1, h2']
                refine hI1 _ ⟨k + 1, by omega⟩ (by simp only; omega) ?_
                simp (decide := true) (maxSteps := 4000000) only [go_sem, Nat.reduceAdd, Nat.reduceSub, Nat.reduceMul, Nat.reduceDiv, Nat.reduceMod, Nat.reduceLT, Nat.reduceLeDiff, Nat.reduceEqDiff, Nat.reduceBEq, Nat.reduceBNe, Nat.reduceGT, Int.reduceAdd, Int.reduceSub, Int.reduceMul, Int.reduceNeg, Int.reduceLT, Int.reduceLE, Int.reduceEq, Int.reduceNe, Int.reduceBEq, Int.reduceBNe, Int.reduceToNat, Int.reduceGT, Int.reduceGE, ↓reduceIte, decide_true, decide_false, eq_self, Nat.mul_one, Nat.zero_mul, Nat.one_mul, Int.le_refl, Nat.le_refl, Int.cast_ofNat_Int, hc1, hrs, hBr, Vial.cs]
      · have hke : k = N - 1 := by omega
        subst hke
        simp (decide := true) (maxSteps := 4000000) only [go_sem, Nat.reduceAdd, Nat.reduceSub, Nat.reduceMul, Nat.reduceDiv, Nat.reduceMod, Nat.reduceLT, Nat.reduceLeDiff, Nat.reduceEqDiff, Nat.reduceBEq, Nat.reduceBNe, Nat.reduceGT, Int.reduceAdd, Int.reduceSub, Int.reduceMul, Int.reduceNeg, Int.reduceLT, Int.reduceLE, Int.reduceEq, Int.reduceNe, Int.reduceBEq, Int.reduceBNe, Int.reduceToNat, Int.reduceGT, Int.reduceGE, ↓reduceIte, decide_true, decide_false, eq_self, Nat.mul_one, Nat.zero_mul, Nat.one_mul, Int.le_refl, Nat.le_refl, Int.cast_ofNat_Int, hlt, hlz, hsh]
        refine hQ1 _ _ ?_
        rcases hrf with ⟨e, hf⟩ | ⟨e, hf⟩
        · have hBr : rowI (nI (refTo v (l.map mid) l.length (N - 1))) = .nilSl := by rw [e]; rfl
          simp (decide := true) (maxSteps := 4000000) only [go_sem, Nat.reduceAdd, Nat.reduceSub, Nat.reduceMul, Nat.reduceDiv, Nat.reduceMod, Nat.reduceLT, Nat.reduceLeDiff, Nat.reduceEqDiff, Nat.reduceBEq, Nat.reduceBNe, Nat.reduceGT, Int.reduceAdd, Int.reduceSub, Int.reduceMul, Int.reduceNeg, Int.reduceLT, Int.reduceLE, Int.reduceEq, Int.reduceNe, Int.reduceBEq, Int.reduceBNe, Int.reduceToNat, Int.reduceGT, Int.reduceGE, ↓reduceIte, decide_true, decide_false, eq_self, Nat.mul_one, Nat.zero_mul, Nat.one_mul, Int.le_refl, Nat.le_refl, Int.cast_ofNat_Int, hBr, hf]
        · have hB0 : ¬ (refTo v (l.map mid) l.length (N - 1)).length = 0 := fun h => e (List.length_eq_zero_iff.1 h)
          have hBr := rowI_ne (l := nI (refTo v (l.map mid) l.length (N - 1))) (by rw [nI_len]; exact hB0)
          rw [nI_len] at hBr
          have hB0' : (((refTo v (l.map mid) l.length (N - 1)).length : Int) == 0) = false := beq_int_f (by omega)
          simp (decide := true) (maxSteps := 4000000) only [go_sem, Nat.reduceAdd, Nat.reduceSub, Nat.reduceMul, Nat.reduceDiv, Nat.reduceMod, Nat.reduceLT, Nat.reduceLeDiff, Nat.reduceEqDiff, Nat.reduceBEq, Nat.reduceBNe, Nat.reduceGT, Int.reduceAdd, Int.reduceSub, Int.reduceMul, Int.reduceNeg, Int.reduceLT, Int.reduceLE, Int.reduceEq, Int.reduceNe, Int.reduceBEq, Int.reduceBNe, Int.reduceToNat, Int.reduceGT, Int.reduceGE, ↓reduceIte, decide_true, decide_false, eq_self, Nat.mul_one, Nat.zero_mul, Nat.one_mul, Int.le_refl, Nat.le_refl, Int.cast_ofNat_Int, hBr, hB0', hf, leafS, nI_len]
  · have hk' : (asked v l != 0) = true := by simpa using hk
    have hf : falseP v l = (.nilSl, asked v l) := by unfold falseP; rw [if_neg hk]
    rcases hs with ⟨rfl, rfl⟩ | ⟨full, rfl⟩ <;> simp (decide := true) (maxSteps := 4000000) only [go_sem, Nat.reduceAdd, Nat.reduceSub, Nat.reduceMul, Nat.reduceDiv, Nat.reduceMod, Nat.reduceLT, Nat.reduceLeDiff, Nat.reduceEqDiff, Nat.reduceBEq, Nat.reduceBNe, Nat.reduceGT, Int.reduceAdd, Int.reduceSub, Int.reduceMul, Int.reduceNeg, Int.reduceLT, Int.reduceLE, Int.reduceEq, Int.reduceNe, Int.reduceBEq, Int.reduceBNe, Int.reduceToNat, Int.reduceGT, Int.reduceGE, ↓reduceIte, decide_true, decide_false, eq_self, Nat.mul_one, Nat.zero_mul, Nat.one_mul, Int.le_refl, Nat.le_refl, Int.cast_ofNat_Int, Try.f24, Vial.t, Vial.cs, unRds, hk, hk', hf]
noncomputable def grFalse : List TV → Option TV
  | [.agg [.int .i64 m, .int .i64 a, .int .i64 b, .int .i64 c, .int .i64 d, .int .i64 e, .int .i64 f, .int .i64 g], s] => match rowL unRds s with
    | some l => if True then some (.tup [(falseP ⟨m, a, b, c, d, e, f, g⟩ l).1, .int .i64 (falseP ⟨m, a, b, c, d, e, f, g⟩ l).2]) else none
    | none => none
  | _ => none
theorem grFalse_ok : ∀ xs r, grFalse xs = some r → PCalls Try.prog 24 xs r := by
  intro xs r h
  unfold grFalse at h
  split at h
  · split at h
    · rename_i l hl
      have hl := rowL_some (un := unRds) rfl (@unRds_some) hl
      split at h
      · rename_i hc; cases h; exact rFalse_c ⟨_, _, _, _, _, _, _, _⟩ hl
      · cases h
    · cases h
  · cases h
attribute [go_sem] grFalse
noncomputable def spF2 : Pm.Spec := spK1.one 24 grFalse
@[go_sem] theorem spF2_p (f : FuncId) (xs : List TV) : spF2.p f xs = Pm.Spec.p (spK1.one 24 grFalse) f xs := rfl
@[go_sem] theorem spF2_h (f : FuncId) (ps : List PV) (hl : List PO) : spF2.h f ps hl = Pm.Spec.h (spK1.one 24 grFalse) f ps hl := rfl
@[go_sem] theorem spF2_fz (f : FuncId) : spF2.fz f = Pm.Spec.fz (spK1.one 24 grFalse) f := rfl
@[go_sem] theorem spF2_fr (f : FuncId) : spF2.fr f = Pm.Spec.fr (spK1.one 24 grFalse) f := rfl
@[go_sem] theorem spF2_mu (t : TypeId) : spF2.mu t = Pm.Spec.mu (spK1.one 24 grFalse) t := rfl
theorem spF2_ok : SpecOk Try.prog spF2 := Spec.one_ok grFalse_ok spK1_ok
theorem false_row (v : Vial) (l : List Rd) : (falseP v l).1 = .nilSl ∨ ∃ a : List Int, (falseP v l).1 = .sl (ints a) a.length false ∧ a.length ≤ 62 := by
  by_cases hk : asked v l = 0
  · rcases false_law hk with ⟨_, h⟩ | ⟨_, S, hS, h⟩
    · rw [h]; exact .inl rfl
    · rw [h]
      refine .inr ⟨nI S, rfl, ?_⟩
      have := rowN_len hS.row
      have h8 := rdsOk_len (asked_zero hk).2
      rw [nI_len]; omega
  · unfold falseP; rw [if_neg hk]; exact .inl rfl
theorem LevelFalse_c (v : Vial) {l : List Rd} {s : TV} (hs : IsRow Rd.cs s l) (hl : l.length ≤ 5864062014806) : PCalls Try.prog 4 [v.t, s] (.bool true) := by
  have hfr := false_row v l
  obtain ⟨F, hF⟩ : ∃ F, falseP v l = F := ⟨_, rfl⟩
  obtain ⟨f, e⟩ := F
  rw [hF] at hfr
  have hun' : unI [] = some [] := rfl
  refine pcalls_by Try.mixes spF2_ok (fn := Try.f4) Try.func4 rfl (by kernel_rfl) (by show 2 ≤ _; decide) ?_
  rcases hfr with hfr | ⟨a, hfr, ha⟩ <;> simp only at hfr <;> subst hfr
  · rcases hs with ⟨rfl, rfl⟩ | ⟨full, rfl⟩ <;> simp (decide := true) (maxSteps := 4000000) only [go_sem, Nat.reduceAdd, Nat.reduceSub, Nat.reduceMul, Nat.reduceDiv, Nat.reduceMod, Nat.reduceLT, Nat.reduceLeDiff, Nat.reduceEqDiff, Nat.reduceBEq, Nat.reduceBNe, Nat.reduceGT, Int.reduceAdd, Int.reduceSub, Int.reduceMul, Int.reduceNeg, Int.reduceLT, Int.reduceLE, Int.reduceEq, Int.reduceNe, Int.reduceBEq, Int.reduceBNe, Int.reduceToNat, Int.reduceGT, Int.reduceGE, ↓reduceIte, decide_true, decide_false, eq_self, Nat.mul_one, Nat.zero_mul, Nat.one_mul, Int.le_refl, Nat.le_refl, Int.cast_ofNat_Int, Try.f4, Vial.t, Vial.cs, unRds, hl, hF, hun', beq_self_eq_true, bne_self_eq_false, List.length_nil]
  · have ha' : a.length ≤ 9223372036854775806 := by omega
    rcases hs with ⟨rfl, rfl⟩ | ⟨full, rfl⟩ <;> simp (decide := true) (maxSteps := 4000000) only [go_sem, Nat.reduceAdd, Nat.reduceSub, Nat.reduceMul, Nat.reduceDiv, Nat.reduceMod, Nat.reduceLT, Nat.reduceLeDiff, Nat.reduceEqDiff, Nat.reduceBEq, Nat.reduceBNe, Nat.reduceGT, Int.reduceAdd, Int.reduceSub, Int.reduceMul, Int.reduceNeg, Int.reduceLT, Int.reduceLE, Int.reduceEq, Int.reduceNe, Int.reduceBEq, Int.reduceBNe, Int.reduceToNat, Int.reduceGT, Int.reduceGE, ↓reduceIte, decide_true, decide_false, eq_self, Nat.mul_one, Nat.zero_mul, Nat.one_mul, Int.le_refl, Nat.le_refl, Int.cast_ofNat_Int, Try.f4, Vial.t, Vial.cs, unRds, hl, hF, hun', ha', beq_self_eq_true, bne_self_eq_false, List.length_nil]
end Go.Proofs.Ytgofljmnlfnlnaa
