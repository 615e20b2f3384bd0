/- What the claim leans on, text 6. -/
import Derived.Test.YtlonlnfenbadbaaDoorC5
set_option linter.unusedSimpArgs false
set_option linter.unusedVariables false

/- Part TGc. -/
namespace Go.Ow
open Go Go.RowKit Go.Pm Go.Oc Go.Oh
def preY (Y : YS) (k : Nat) (D : List (List Int)) : Prop := (∀ (i : Nat) (g : List Int), D[i]? = some g → k + i < Y.m → Y.xs[k + i]? = some [gT g]) ∧ (Y.stop = false → k + D.length ≤ Y.m) ∧ (Y.stop = true → k < Y.m)
def outY (Y : YS) (k L : Nat) : Bool × Nat := if Y.stop = true ∧ Y.m ≤ k + L then (false, Y.m) else (true, k + L)
noncomputable def decG : TV → Option (List Int)
  | .nilSl => some []
  | .sl cs n false => match unI cs with
    | some l => if n = l.length ∧ l.length ≠ 0 then some l else none
    | none => none
  | _ => none
theorem decG_some {t : TV} {l : List Int} (h : decG t = some l) : t = gT l := by
  unfold decG at h
  split at h
  · cases h; rfl
  · split at h
    · rename_i cs n _ l' hl
      split at h
      · rename_i hc
        cases h
        have e := unI_some hl
        rw [ic_ints] at e
        rw [e, hc.1]; unfold gT; rw [if_neg hc.2]
      · cases h
    · cases h
  · cases h
theorem pre_part {Y : YS} {k n d : Nat} {l : List Int} {i : Nat} (hi : i < n) (hc : l.contains (i : Int) = false) (h : preY Y k (dfs n (d + 1) l)) (hs : ¬ (Y.stop = true ∧ Y.m ≤ k + (dfsTo n d l i).length)) : preY Y (k + (dfsTo n d l i).length) (dfs n d (l ++ [(i : Int)])) := by
  obtain ⟨h1, h2, h3⟩ := h
  have hsplit : ∃ R, dfs n (d + 1) l = dfsTo n d l i ++ (dfs n d (l ++ [(i : Int)]) ++ R) := by
    have e : ∀ m, i < m → ∃ R, dfsTo n d l m = dfsTo n d l i ++ (dfs n d (l ++ [(i : Int)]) ++ R) := by
      intro m hm
      induction m with
      | zero => omega
      | succ m ih =>
        by_cases hm2 : i = m
        · subst hm2
          exact ⟨[], by rw [dfsTo_succ, hc]; simp⟩
        · obtain ⟨R, hR⟩ := ih (by omega)
          exact ⟨R ++ (if l.contains (m : Int) then [] else dfs n d (l ++ [(m : Int)])), by rw [dfsTo_succ, hR]; simp [List.append_assoc]⟩
    exact e n hi
  obtain ⟨R, hR⟩ := hsplit
  rw [hR] at h1 h2
  refine ⟨fun j g hg hj => ?_, fun e => ?_, fun e => ?_⟩
  · have := h1 ((dfsTo n d l i).length + j) g (by
      rw [List.getElem?_append_right (by omega), show (dfsTo n d l i).length + j - (dfsTo n d l i).length = j by omega, List.getElem?_append_left (List.getElem?_eq_some_iff.1 hg).1]; exact hg) (by omega)
    rwa [← Nat.add_assoc] at this
  · have := h2 e
    simp only [List.length_append] at this
    omega
  · have : ¬ Y.m ≤ k + (dfsTo n d l i).length := fun hle => hs ⟨e, hle⟩
    omega
theorem dfsTo_le {n d : Nat} {l : List Int} : ∀ {i j : Nat}, i ≤ j → (dfsTo n d l i).length ≤ (dfsTo n d l j).length
  | i, 0, h => by rw [show i = 0 by omega]; exact Nat.le_refl _
  | i, j + 1, h => by
    by_cases e : i = j + 1
    · subst e; exact Nat.le_refl _
    · have := dfsTo_le (n := n) (d := d) (l := l) (show i ≤ j by omega)
      rw [dfsTo_succ, List.length_append]; omega
end Go.Ow
namespace Go.Proofs.YtlonlnfenbadbaaDoor
open Go.RowKit Go.Pm Go.Oc Go.Oh Go.Ow
set_option maxRecDepth 100000
set_option linter.unusedVariables false
set_option maxHeartbeats 8000000

def lonT (y : Nat) (W : List Int) (f : Bool) (num den : Int) : List PO := [.box [.yld y], .box [.t (.sl (ints W) W.length f), .t (.int .i64 num), .t (.int .i64 den)], .box [.fnc 114 [1, 2, 3]]]
open Classical in
noncomputable def gLon (W : List Int) (f : Bool) (num den : Int) (d : Nat) : YS → List PV → List PO → Option (PV × List PO) := fun Y ps hl => match ps, hl with
  | [.t gv, .t (.int .i64 m), .ptr 1 0, .ptr 2 0, .ptr 3 0], .cnt k :: tl => match decG gv with
    | some l => if m = d ∧ tl = lonT Y.l W f num den ∧ gOk W.length l.length l ∧ l.length + d ≤ 4 ∧ preY Y k (dfs W.length d l) then
        some (.t (.bool (outY Y k (dfs W.length d l).length).1), .cnt (outY Y k (dfs W.length d l).length).2 :: lonT Y.l W f num den) else none
    | none => none
  | _, _ => none
def LonC (W : List Int) (f : Bool) (num den : Int) (d : Nat) : Prop := ∀ (Y : YS) (l : List Int) (k : Nat), gOk W.length l.length l → l.length + d ≤ 4 → preY Y k (dfs W.length d l) →
  YCalls Tryd.prog Y 114 [.t (gT l), .t (.int .i64 d), .ptr 1 0, .ptr 2 0, .ptr 3 0] (getL (.cnt k :: lonT Y.l W f num den)) (.t (.bool (outY Y k (dfs W.length d l).length).1)) (getL (.cnt (outY Y k (dfs W.length d l).length).2 :: lonT Y.l W f num den))
theorem gLon_ok {W : List Int} {f : Bool} {num den : Int} {d : Nat} (h : LonC W f num den d) : ∀ Y xs hl r hl', gLon W f num den d Y xs hl = some (r, hl') → YCalls Tryd.prog Y 114 xs (getL hl) r (getL hl') := by
  intro Y xs hl r hl' e
  unfold gLon at e
  split at e
  · split at e
    · rename_i l hl
      split at e
      · rename_i hc
        obtain ⟨rfl, rfl, h1, h2, h3⟩ := hc
        simp only [Option.some.injEq, Prod.mk.injEq] at e
        obtain ⟨rfl, rfl⟩ := e
        rw [decG_some hl]
        exact h Y l _ h1 h2 h3
      · cases e
    · cases e
  · cases e
open Classical in
@[go_sem] theorem gLon_eq (W : List Int) (f : Bool) (num den : Int) (d : Nat) (Y : YS) (gv : TV) (m : Int) (k : Nat) (tl : List PO) : gLon W f num den d Y [.t gv, .t (.int .i64 m), .ptr 1 0, .ptr 2 0, .ptr 3 0] (.cnt k :: tl) = match decG gv with
    | some l => if m = d ∧ tl = lonT Y.l W f num den ∧ gOk W.length l.length l ∧ l.length + d ≤ 4 ∧ preY Y k (dfs W.length d l) then
        some (.t (.bool (outY Y k (dfs W.length d l).length).1), .cnt (outY Y k (dfs W.length d l).length).2 :: lonT Y.l W f num den) else none
    | none => none := rfl
theorem lon_zero (W : List Int) (f : Bool) (num den : Int) : LonC W f num den 0 := by
  intro Y l k h1 h2 h3
  have hk : k < Y.m := by
    cases hs : Y.stop with
    | true => exact h3.2.2 hs
    | false => have := h3.2.1 hs; simp only [dfs, List.length_cons, List.length_nil] at this; omega
  have hx := h3.1 0 l rfl (by omega)
  rw [Nat.add_zero] at hx
  have o1 : (outY Y k (dfs W.length 0 l).length).1 = !(Y.stop && k + 1 == Y.m) := by
    show (outY Y k 1).1 = _
    unfold outY
    cases hs : Y.stop
    · simp
    · by_cases hm : Y.m ≤ k + 1
      · have : k + 1 = Y.m := by omega
        simp [this]
      · have : ¬ k + 1 = Y.m := by omega
        simp [hm, this]
  have o2 : (outY Y k (dfs W.length 0 l).length).2 = k + 1 := by
    show (outY Y k 1).2 = _
    unfold outY
    split
    · rename_i h; simp only; omega
    · rfl
  rw [o1, o2]
  refine ycalls_by Tryd.mixes noSpec_ok (fn := Tryd.f114) Tryd.func114 rfl (by kernel_rfl) (by show 5 ≤ _; decide) ?_
  simp (decide := true) (maxSteps := 4000000) only [go_sem, Nat.reduceAdd, Nat.reduceSub, Nat.reduceMul, Nat.reduceDiv, Nat.reduceMod, Nat.reduceLT, Nat.reduceLeDiff, Nat.reduceEqDiff, Nat.reduceBEq, Nat.reduceBNe, Nat.reduceGT, Int.reduceAdd, Int.reduceSub, Int.reduceMul, Int.reduceNeg, Int.reduceLT, Int.reduceLE, Int.reduceEq, Int.reduceNe, Int.reduceBEq, Int.reduceBNe, Int.reduceToNat, Int.reduceGT, Int.reduceGE, ↓reduceIte, decide_true, decide_false, eq_self, Nat.mul_one, Nat.zero_mul, Nat.one_mul, Int.le_refl, Nat.le_refl, Int.cast_ofNat_Int, Tryd.f114, lonT, hk, hx]
  exact ⟨_, rfl, rfl⟩
noncomputable def spLon (W : List Int) (f : Bool) (num den : Int) (d : Nat) : Pm.Spec := { (((noSpec.one 115 scContains).oneH 116 scClone).oneY 114 (gLon W f num den d)) with mu := fun t => t == 22, fr := fun g => g == 114, gd := true }
theorem spLon_ok {W : List Int} {f : Bool} {num den : Int} {d : Nat} (h : LonC W f num den d) : SpecOk Tryd.prog (spLon W f num den d) := Spec.oneY_ok (gLon_ok h) (Spec.oneH_ok scClone_ok (Spec.one_ok scContains_ok noSpec_ok))
@[go_sem] theorem spLon_p (W : List Int) (f : Bool) (num den : Int) (d : Nat) (g : FuncId) (xs : List TV) : (spLon W f num den d).p g xs = if g = 115 then scContains xs else none := rfl
@[go_sem] theorem spLon_h (W : List Int) (f : Bool) (num den : Int) (d : Nat) (g : FuncId) (ps : List PV) (hl : List PO) : (spLon W f num den d).h g ps hl = if g = 116 then scClone ps hl else none := rfl
@[go_sem] theorem spLon_y (W : List Int) (f : Bool) (num den : Int) (d : Nat) (Y : YS) (g : FuncId) (ps : List PV) (hl : List PO) : (spLon W f num den d).y Y g ps hl = if g = 114 then gLon W f num den d Y ps hl else none := rfl
@[go_sem] theorem spLon_fz (W : List Int) (f : Bool) (num den : Int) (d : Nat) (g : FuncId) : (spLon W f num den d).fz g = false := rfl
@[go_sem] theorem spLon_fr (W : List Int) (f : Bool) (num den : Int) (d : Nat) (g : FuncId) : (spLon W f num den d).fr g = (g == 114) := rfl
@[go_sem] theorem spLon_yf (W : List Int) (f : Bool) (num den : Int) (d : Nat) (g : FuncId) : (spLon W f num den d).yf g = (g == 114 || false) := rfl
@[go_sem] theorem spLon_gd (W : List Int) (f : Bool) (num den : Int) (d : Nat) : (spLon W f num den d).gd = true := rfl
@[go_sem] theorem spLon_mu (W : List Int) (f : Bool) (num den : Int) (d : Nat) (t : TypeId) : (spLon W f num den d).mu t = (t == 22) := rfl
@[go_sem] theorem spLon_nf (W : List Int) (f : Bool) (num den : Int) (d : Nat) (t : TypeId) : (spLon W f num den d).nf t = false := rfl
theorem gT_nil : gT [] = .nilSl := rfl
theorem gT_ne {l : List Int} (h : ¬ l.length = 0) : gT l = .sl (ints l) l.length false := by unfold gT; rw [if_neg h]
theorem gOk_snoc {n : Nat} {l : List Int} (h : gOk n l.length l) {i : Nat} (hi : i < n) (hc : l.contains (i : Int) = false) : gOk n (l ++ [(i : Int)]).length (l ++ [(i : Int)]) := by
  have hc : (i : Int) ∉ l := fun e => by rw [List.contains_iff_mem.2 e] at hc; cases hc
  exact ⟨rfl, by rw [List.nodup_append]; exact ⟨h.2.1, by simp, fun a ha b hb => by rw [List.mem_singleton] at hb; subst hb; intro e; subst e; exact hc ha⟩, fun x hx => by
    rcases List.mem_append.1 hx with hx | hx
    · exact h.2.2 x hx
    · rw [List.mem_singleton] at hx; subst hx; omega⟩
theorem fz1 (h : Hp) (xs : List TV) (y : TV) : allO (List.map (thawC h) (List.map PV.t xs ++ [PV.t y])) = some (xs ++ [y]) := by
  have e : (List.map PV.t xs ++ [PV.t y]) = List.map PV.t (xs ++ [y]) := by simp
  rw [e, List.map_map]
  have e2 : thawC h ∘ PV.t = fun x => some x := by funext x; rfl
  rw [e2]
  generalize xs ++ [y] = zs
  induction zs with
  | nil => rfl
  | cons z zs ih => simp [allO, ih]
theorem fz3 (xs : List TV) : (List.map PV.t xs).flatMap idsG = [] := by
  induction xs with
  | nil => rfl
  | cons x xs ih => simp [idsG]
theorem fz2 (xs : List TV) (y : TV) : (List.map PV.t xs ++ [PV.t y]).flatMap idsG = [] := by
  rw [List.flatMap_append, fz3]; rfl
theorem lon_succ {W : List Int} {f : Bool} {num den : Int} {d : Nat} (hW : W.length ≤ 10) (hd : d ≤ 3) (ih : LonC W f num den d) : LonC W f num den (d + 1) := by
  intro Y l k h1 h2 h3
  have hb : (((d + 1 : Nat) : Int) == 0) = false := beq_int_f (by omega)
  have hm1 : IntKind.i64.wrap (((d + 1 : Nat) : Int) - 1) = (d : Int) := by rw [wrap_in (by omega) (by omega)]; omega
  have hl6 : l.length ≤ 1000000 := by omega
  have hl3 : l.length ≤ 1000 := by omega
  have hl8 : (l.length + 1) * 8 ≤ 140737488355328 := by omega
  have hui := unIs l
  have hil := ints_len l
  obtain ⟨⟨ob, oc⟩, hout⟩ : ∃ o, outY Y k (dfs W.length (d + 1) l).length = o := ⟨_, rfl⟩
  rw [hout]
  refine ycalls_by Tryd.mixes (spLon_ok ih) (fn := Tryd.f114) Tryd.func114 rfl (by kernel_rfl) (by show 5 ≤ _; decide) ?_
  simp (decide := true) (maxSteps := 4000000) only [go_sem, Nat.reduceAdd, Nat.reduceSub, Nat.reduceMul, Nat.reduceDiv, Nat.reduceMod, Nat.reduceLT, Nat.reduceLeDiff, Nat.reduceEqDiff, Nat.reduceBEq, Nat.reduceBNe, Nat.reduceGT, Int.reduceAdd, Int.reduceSub, Int.reduceMul, Int.reduceNeg, Int.reduceLT, Int.reduceLE, Int.reduceEq, Int.reduceNe, Int.reduceBEq, Int.reduceBNe, Int.reduceToNat, Int.reduceGT, Int.reduceGE, ↓reduceIte, decide_true, decide_false, eq_self, Nat.mul_one, Nat.zero_mul, Nat.one_mul, Int.le_refl, Nat.le_refl, Int.cast_ofNat_Int, Tryd.f114, lonT, hb]
  refine pwpC_loopU (A := { i : Nat // i ≤ W.length ∧ ¬ (Y.stop = true ∧ Y.m ≤ k + (dfsTo W.length d l i).length) }) [0, 1, 2, 3, 4, 17] (fun i => [(18, .t (.int .i64 i.1))]) (fun i => [(0, .cnt (k + (dfsTo W.length d l i.1).length))]) (fun i => W.length - i.1) ⟨0, by omega, by
      simp only [dfsTo, List.range_zero, List.flatMap_nil, List.length_nil, Nat.add_zero]
      intro e; have := h3.2.2 e.1; omega⟩ (by decide) (fun _ => by rfl) ?_ fun Q1 hQ1 ⟨i, hi, hns⟩ I1 hI1 => ?_
  · simp (decide := true) (maxSteps := 4000000) only [go_sem, Nat.reduceAdd, Nat.reduceSub, Nat.reduceMul, Nat.reduceDiv, Nat.reduceMod, Nat.reduceLT, Nat.reduceLeDiff, Nat.reduceEqDiff, Nat.reduceBEq, Nat.reduceBNe, Nat.reduceGT, Int.reduceAdd, Int.reduceSub, Int.reduceMul, Int.reduceNeg, Int.reduceLT, Int.reduceLE, Int.reduceEq, Int.reduceNe, Int.reduceBEq, Int.reduceBNe, Int.reduceToNat, Int.reduceGT, Int.reduceGE, ↓reduceIte, decide_true, decide_false, eq_self, Nat.mul_one, Nat.zero_mul, Nat.one_mul, Int.le_refl, Nat.le_refl, Int.cast_ofNat_Int, show dfsTo W.length d l 0 = [] from rfl]
    first | done | trace_state
  · by_cases hlt : (i : Int) < W.length
    · have hi1 : IntKind.i64.wrap ((i : Int) + 1) = ((i + 1 : Nat) : Int) := by rw [wrap_in (by omega) (by omega)]; omega
      have hsu := dfsTo_succ W.length d l i
      cases hc : l.contains (i : Int) with
      | true =>
        have h0 : ¬ l.length = 0 := fun e => by rw [List.eq_nil_of_length_eq_zero e] at hc; cases hc
        have hg := gT_ne h0
        rw [hc, if_pos rfl, List.append_nil] at hsu
        simp (decide := true) (maxSteps := 4000000) only [go_sem, Nat.reduceAdd, Nat.reduceSub, Nat.reduceMul, Nat.reduceDiv, Nat.reduceMod, Nat.reduceLT, Nat.reduceLeDiff, Nat.reduceEqDiff, Nat.reduceBEq, Nat.reduceBNe, Nat.reduceGT, Int.reduceAdd, Int.reduceSub, Int.reduceMul, Int.reduceNeg, Int.reduceLT, Int.reduceLE, Int.reduceEq, Int.reduceNe, Int.reduceBEq, Int.reduceBNe, Int.reduceToNat, Int.reduceGT, Int.reduceGE, ↓reduceIte, decide_true, decide_false, eq_self, Nat.mul_one, Nat.zero_mul, Nat.one_mul, Int.le_refl, Nat.le_refl, Int.cast_ofNat_Int, hlt, hg, hui, hl6, hc]
        refine hI1 _ ⟨i + 1, by omega, by rw [hsu]; exact hns⟩ (by simp only; omega) ?_
        simp (decide := true) (maxSteps := 4000000) only [go_sem, Nat.reduceAdd, Nat.reduceSub, Nat.reduceMul, Nat.reduceDiv, Nat.reduceMod, Nat.reduceLT, Nat.reduceLeDiff, Nat.reduceEqDiff, Nat.reduceBEq, Nat.reduceBNe, Nat.reduceGT, Int.reduceAdd, Int.reduceSub, Int.reduceMul, Int.reduceNeg, Int.reduceLT, Int.reduceLE, Int.reduceEq, Int.reduceNe, Int.reduceBEq, Int.reduceBNe, Int.reduceToNat, Int.reduceGT, Int.reduceGE, ↓reduceIte, decide_true, decide_false, eq_self, Nat.mul_one, Nat.zero_mul, Nat.one_mul, Int.le_refl, Nat.le_refl, Int.cast_ofNat_Int, hi1, hsu, hg]
      | false =>
        have hpre := pre_part (d := d) (show i < W.length by omega) hc h3 hns
        have hgo := gOk_snoc h1 (show i < W.length by omega) hc
        rw [hc] at hsu
        simp only [Bool.false_eq_true, if_false] at hsu
        have hsl : k + (dfsTo W.length d l (i + 1)).length = k + (dfsTo W.length d l i).length + (dfs W.length d (l ++ [(i : Int)])).length := by rw [hsu, List.length_append]; omega
        have hle := dfsTo_le (n := W.length) (d := d) (l := l) (show i + 1 ≤ W.length by omega)
        rw [dfsTo_all] at hle
        have hl1 : (l ++ [(i : Int)]).length = l.length + 1 := by simp
        have hl4 : l.length + 1 + d ≤ 4 := by omega
        rw [hl1] at hgo
        have hde : decG (.sl (ints l ++ [.int .i64 i]) (l.length + 1) false) = some (l ++ [(i : Int)]) := by
          have e := unIs (l ++ [(i : Int)])
          rw [ints_snoc] at e
          unfold decG
          simp only [e, hl1]
          rw [if_pos ⟨trivial, by omega⟩]
        obtain ⟨⟨b', c'⟩, hov⟩ : ∃ o, outY Y (k + (dfsTo W.length d l i).length) (dfs W.length d (l ++ [(i : Int)])).length = o := ⟨_, rfl⟩
        by_cases h0 : l.length = 0
        · have hn : l = [] := List.eq_nil_of_length_eq_zero h0
          subst hn
          simp only [List.nil_append, List.length_nil, Nat.zero_add, show ints [] = [] from rfl] at hde hpre hgo hl1 hl4 hov hsl
          simp (decide := true) (maxSteps := 4000000) only [go_sem, Nat.reduceAdd, Nat.reduceSub, Nat.reduceMul, Nat.reduceDiv, Nat.reduceMod, Nat.reduceLT, Nat.reduceLeDiff, Nat.reduceEqDiff, Nat.reduceBEq, Nat.reduceBNe, Nat.reduceGT, Int.reduceAdd, Int.reduceSub, Int.reduceMul, Int.reduceNeg, Int.reduceLT, Int.reduceLE, Int.reduceEq, Int.reduceNe, Int.reduceBEq, Int.reduceBNe, Int.reduceToNat, Int.reduceGT, Int.reduceGE, ↓reduceIte, decide_true, decide_false, eq_self, Nat.mul_one, Nat.zero_mul, Nat.one_mul, Int.le_refl, Nat.le_refl, Int.cast_ofNat_Int, hlt, gT_nil, hm1, hde, freezeW, freezeO, closedG, seenF, wr, upo, thawP, thawC, lonT, hgo, hl4, hpre, hov]
          cases b' with
          | true =>
            have hns' : ¬ (Y.stop = true ∧ Y.m ≤ k + (dfsTo W.length d ([] : List Int) (i + 1)).length) := fun e => by
              rw [hsl] at e
              unfold outY at hov
              rw [if_pos e] at hov
              cases hov
            have hc' : c' = k + (dfsTo W.length d ([] : List Int) (i + 1)).length := by
              rw [hsl] at hns' ⊢
              unfold outY at hov
              rw [if_neg hns'] at hov
              cases hov; rfl
            subst hc'
            simp (decide := true) (maxSteps := 4000000) only [go_sem, Nat.reduceAdd, Nat.reduceSub, Nat.reduceMul, Nat.reduceDiv, Nat.reduceMod, Nat.reduceLT, Nat.reduceLeDiff, Nat.reduceEqDiff, Nat.reduceBEq, Nat.reduceBNe, Nat.reduceGT, Int.reduceAdd, Int.reduceSub, Int.reduceMul, Int.reduceNeg, Int.reduceLT, Int.reduceLE, Int.reduceEq, Int.reduceNe, Int.reduceBEq, Int.reduceBNe, Int.reduceToNat, Int.reduceGT, Int.reduceGE, ↓reduceIte, decide_true, decide_false, eq_self, Nat.mul_one, Nat.zero_mul, Nat.one_mul, Int.le_refl, Nat.le_refl, Int.cast_ofNat_Int]
            refine hI1 _ ⟨i + 1, by omega, hns'⟩ (by simp only; omega) ?_
            simp (decide := true) (maxSteps := 4000000) only [go_sem, Nat.reduceAdd, Nat.reduceSub, Nat.reduceMul, Nat.reduceDiv, Nat.reduceMod, Nat.reduceLT, Nat.reduceLeDiff, Nat.reduceEqDiff, Nat.reduceBEq, Nat.reduceBNe, Nat.reduceGT, Int.reduceAdd, Int.reduceSub, Int.reduceMul, Int.reduceNeg, Int.reduceLT, Int.reduceLE, Int.reduceEq, Int.reduceNe, Int.reduceBEq, Int.reduceBNe, Int.reduceToNat, Int.reduceGT, Int.reduceGE, ↓reduceIte, decide_true, decide_false, eq_self, Nat.mul_one, Nat.zero_mul, Nat.one_mul, Int.le_refl, Nat.le_refl, Int.cast_ofNat_Int, hi1, gT_nil]
            first | done | trace_state
          | false =>
            have hst : Y.stop = true ∧ Y.m ≤ k + (dfsTo W.length d ([] : List Int) i).length + (dfs W.length d ([(i : Int)])).length := by
              unfold outY at hov
              split at hov
              · assumption
              · cases hov
            have hc' : c' = Y.m := by unfold outY at hov; rw [if_pos hst] at hov; cases hov; rfl
            subst hc'
            have ho : outY Y k (dfs W.length (d + 1) ([] : List Int)).length = (false, Y.m) := by unfold outY; rw [if_pos ⟨hst.1, by omega⟩]
            rw [ho] at hout
            cases hout
            simp (decide := true) (maxSteps := 4000000) only [go_sem, Nat.reduceAdd, Nat.reduceSub, Nat.reduceMul, Nat.reduceDiv, Nat.reduceMod, Nat.reduceLT, Nat.reduceLeDiff, Nat.reduceEqDiff, Nat.reduceBEq, Nat.reduceBNe, Nat.reduceGT, Int.reduceAdd, Int.reduceSub, Int.reduceMul, Int.reduceNeg, Int.reduceLT, Int.reduceLE, Int.reduceEq, Int.reduceNe, Int.reduceBEq, Int.reduceBNe, Int.reduceToNat, Int.reduceGT, Int.reduceGE, ↓reduceIte, decide_true, decide_false, eq_self, Nat.mul_one, Nat.zero_mul, Nat.one_mul, Int.le_refl, Nat.le_refl, Int.cast_ofNat_Int]
            refine hQ1 _ _ ?_
            simp (decide := true) (maxSteps := 4000000) only [go_sem, Nat.reduceAdd, Nat.reduceSub, Nat.reduceMul, Nat.reduceDiv, Nat.reduceMod, Nat.reduceLT, Nat.reduceLeDiff, Nat.reduceEqDiff, Nat.reduceBEq, Nat.reduceBNe, Nat.reduceGT, Int.reduceAdd, Int.reduceSub, Int.reduceMul, Int.reduceNeg, Int.reduceLT, Int.reduceLE, Int.reduceEq, Int.reduceNe, Int.reduceBEq, Int.reduceBNe, Int.reduceToNat, Int.reduceGT, Int.reduceGE, ↓reduceIte, decide_true, decide_false, eq_self, Nat.mul_one, Nat.zero_mul, Nat.one_mul, Int.le_refl, Nat.le_refl, Int.cast_ofNat_Int]
            first | done | exact ⟨_, rfl, rfl⟩ | trace_state
        · have hg := gT_ne h0
          have h11 : 1 ≤ l.length := by omega
          have hlm : (List.map PV.t (ints l)).length = l.length := by rw [List.length_map, hil]
          have htk : List.take (l.length + 1) (ints l ++ [.int .i64 i]) = ints l ++ [.int .i64 i] := List.take_of_length_le (by simp [hil])
          have hll : (ints l ++ [TV.int .i64 i]).length = l.length + 1 := by simp [hil]
          simp (decide := true) (maxSteps := 4000000) only [go_sem, Nat.reduceAdd, Nat.reduceSub, Nat.reduceMul, Nat.reduceDiv, Nat.reduceMod, Nat.reduceLT, Nat.reduceLeDiff, Nat.reduceEqDiff, Nat.reduceBEq, Nat.reduceBNe, Nat.reduceGT, Int.reduceAdd, Int.reduceSub, Int.reduceMul, Int.reduceNeg, Int.reduceLT, Int.reduceLE, Int.reduceEq, Int.reduceNe, Int.reduceBEq, Int.reduceBNe, Int.reduceToNat, Int.reduceGT, Int.reduceGE, ↓reduceIte, decide_true, decide_false, eq_self, Nat.mul_one, Nat.zero_mul, Nat.one_mul, Int.le_refl, Nat.le_refl, Int.cast_ofNat_Int, hlt, hg, hui, hl6, hl3, hl8, hil, hc, hm1, hde, h11, hlm, fz1, fz2, fz3, freezeW, freezeO, closedG, seenF, wr, upo, thawP, thawC, htk, hll, Nat.mul_one, List.drop_zero, lonT, hl1, hgo, hl4, hpre, hov]
          cases b' with
          | true =>
            have hns' : ¬ (Y.stop = true ∧ Y.m ≤ k + (dfsTo W.length d l (i + 1)).length) := fun e => by
              rw [hsl] at e
              unfold outY at hov
              rw [if_pos e] at hov
              cases hov
            have hc' : c' = k + (dfsTo W.length d l (i + 1)).length := by
              rw [hsl] at hns' ⊢
              unfold outY at hov
              rw [if_neg hns'] at hov
              cases hov; rfl
            subst hc'
            simp (decide := true) (maxSteps := 4000000) only [go_sem, Nat.reduceAdd, Nat.reduceSub, Nat.reduceMul, Nat.reduceDiv, Nat.reduceMod, Nat.reduceLT, Nat.reduceLeDiff, Nat.reduceEqDiff, Nat.reduceBEq, Nat.reduceBNe, Nat.reduceGT, Int.reduceAdd, Int.reduceSub, Int.reduceMul, Int.reduceNeg, Int.reduceLT, Int.reduceLE, Int.reduceEq, Int.reduceNe, Int.reduceBEq, Int.reduceBNe, Int.reduceToNat, Int.reduceGT, Int.reduceGE, ↓reduceIte, decide_true, decide_false, eq_self, Nat.mul_one, Nat.zero_mul, Nat.one_mul, Int.le_refl, Nat.le_refl, Int.cast_ofNat_Int]
            refine hI1 _ ⟨i + 1, by omega, hns'⟩ (by simp only; omega) ?_
            simp (decide := true) (maxSteps := 4000000) only [go_sem, Nat.reduceAdd, Nat.reduceSub, Nat.reduceMul, Nat.reduceDiv, Nat.reduceMod, Nat.reduceLT, Nat.reduceLeDiff, Nat.reduceEqDiff, Nat.reduceBEq, Nat.reduceBNe, Nat.reduceGT, Int.reduceAdd, Int.reduceSub, Int.reduceMul, Int.reduceNeg, Int.reduceLT, Int.reduceLE, Int.reduceEq, Int.reduceNe, Int.reduceBEq, Int.reduceBNe, Int.reduceToNat, Int.reduceGT, Int.reduceGE, ↓reduceIte, decide_true, decide_false, eq_self, Nat.mul_one, Nat.zero_mul, Nat.one_mul, Int.le_refl, Nat.le_refl, Int.cast_ofNat_Int, hi1, hg]
            first | done | trace_state
          | false =>
            have hst : Y.stop = true ∧ Y.m ≤ k + (dfsTo W.length d l i).length + (dfs W.length d (l ++ [(i : Int)])).length := by
              unfold outY at hov
              split at hov
              · assumption
              · cases hov
            have hc' : c' = Y.m := by unfold outY at hov; rw [if_pos hst] at hov; cases hov; rfl
            subst hc'
            have ho : outY Y k (dfs W.length (d + 1) l).length = (false, Y.m) := by unfold outY; rw [if_pos ⟨hst.1, by omega⟩]
            rw [ho] at hout
            cases hout
            simp (decide := true) (maxSteps := 4000000) only [go_sem, Nat.reduceAdd, Nat.reduceSub, Nat.reduceMul, Nat.reduceDiv, Nat.reduceMod, Nat.reduceLT, Nat.reduceLeDiff, Nat.reduceEqDiff, Nat.reduceBEq, Nat.reduceBNe, Nat.reduceGT, Int.reduceAdd, Int.reduceSub, Int.reduceMul, Int.reduceNeg, Int.reduceLT, Int.reduceLE, Int.reduceEq, Int.reduceNe, Int.reduceBEq, Int.reduceBNe, Int.reduceToNat, Int.reduceGT, Int.reduceGE, ↓reduceIte, decide_true, decide_false, eq_self, Nat.mul_one, Nat.zero_mul, Nat.one_mul, Int.le_refl, Nat.le_refl, Int.cast_ofNat_Int]
            refine hQ1 _ _ ?_
            simp (decide := true) (maxSteps := 4000000) only [go_sem, Nat.reduceAdd, Nat.reduceSub, Nat.reduceMul, Nat.reduceDiv, Nat.reduceMod, Nat.reduceLT, Nat.reduceLeDiff, Nat.reduceEqDiff, Nat.reduceBEq, Nat.reduceBNe, Nat.reduceGT, Int.reduceAdd, Int.reduceSub, Int.reduceMul, Int.reduceNeg, Int.reduceLT, Int.reduceLE, Int.reduceEq, Int.reduceNe, Int.reduceBEq, Int.reduceBNe, Int.reduceToNat, Int.reduceGT, Int.reduceGE, ↓reduceIte, decide_true, decide_false, eq_self, Nat.mul_one, Nat.zero_mul, Nat.one_mul, Int.le_refl, Nat.le_refl, Int.cast_ofNat_Int]
            first | done | exact ⟨_, rfl, rfl⟩ | trace_state
    · have hin : i = W.length := by omega
      subst hin
      rw [dfsTo_all] at hns
      have ho : outY Y k (dfs W.length (d + 1) l).length = (true, k + (dfs W.length (d + 1) l).length) := by unfold outY; rw [if_neg hns]
      rw [ho] at hout
      cases hout
      simp (decide := true) (maxSteps := 4000000) only [go_sem, Nat.reduceAdd, Nat.reduceSub, Nat.reduceMul, Nat.reduceDiv, Nat.reduceMod, Nat.reduceLT, Nat.reduceLeDiff, Nat.reduceEqDiff, Nat.reduceBEq, Nat.reduceBNe, Nat.reduceGT, Int.reduceAdd, Int.reduceSub, Int.reduceMul, Int.reduceNeg, Int.reduceLT, Int.reduceLE, Int.reduceEq, Int.reduceNe, Int.reduceBEq, Int.reduceBNe, Int.reduceToNat, Int.reduceGT, Int.reduceGE, ↓reduceIte, decide_true, decide_false, eq_self, Nat.mul_one, Nat.zero_mul, Nat.one_mul, Int.le_refl, Nat.le_refl, Int.cast_ofNat_Int, hlt]
      refine hQ1 _ _ ?_
      simp (decide := true) (maxSteps := 4000000) only [go_sem, Nat.reduceAdd, Nat.reduceSub, Nat.reduceMul, Nat.reduceDiv, Nat.reduceMod, Nat.reduceLT, Nat.reduceLeDiff, Nat.reduceEqDiff, Nat.reduceBEq, Nat.reduceBNe, Nat.reduceGT, Int.reduceAdd, Int.reduceSub, Int.reduceMul, Int.reduceNeg, Int.reduceLT, Int.reduceLE, Int.reduceEq, Int.reduceNe, Int.reduceBEq, Int.reduceBNe, Int.reduceToNat, Int.reduceGT, Int.reduceGE, ↓reduceIte, decide_true, decide_false, eq_self, Nat.mul_one, Nat.zero_mul, Nat.one_mul, Int.le_refl, Nat.le_refl, Int.cast_ofNat_Int, dfsTo_all]
      first | done | exact ⟨_, rfl, rfl⟩ | trace_state
end Go.Proofs.YtlonlnfenbadbaaDoor

/- Part TGd. -/
namespace Go.Proofs.YtlonlnfenbadbaaDoor
open Go.RowKit Go.Pm Go.Oc Go.Oh Go.Ow
set_option maxRecDepth 100000
set_option linter.unusedVariables false
set_option maxHeartbeats 8000000

theorem lon_all {W : List Int} {f : Bool} {num den : Int} (hW : W.length ≤ 10) : ∀ d, d ≤ 4 → LonC W f num den d
  | 0, _ => lon_zero W f num den
  | d + 1, h => lon_succ hW (by omega) (lon_all hW d (by omega))
noncomputable def gLon2 (W : List Int) (f : Bool) (num den : Int) : YS → List PV → List PO → Option (PV × List PO) := fun Y ps hl => firstO (gLon W f num den 2 Y ps hl) (gLon W f num den 4 Y ps hl)
theorem gLon2_ok {W : List Int} {f : Bool} {num den : Int} (hW : W.length ≤ 10) : ∀ Y xs hl r hl', gLon2 W f num den Y xs hl = some (r, hl') → YCalls Tryd.prog Y 114 xs (getL hl) r (getL hl') := by
  intro Y xs hl r hl' e
  unfold gLon2 firstO at e
  split at e
  · rename_i x hx; cases e; exact gLon_ok (lon_all hW 2 (by omega)) Y xs hl r hl' hx
  · exact gLon_ok (lon_all hW 4 (by omega)) Y xs hl r hl' e
noncomputable def spGr (W : List Int) (f : Bool) (num den : Int) : Pm.Spec := noSpec.oneY 114 (gLon2 W f num den)
theorem spGr_ok {W : List Int} {f : Bool} {num den : Int} (hW : W.length ≤ 10) : SpecOk Tryd.prog (spGr W f num den) := Spec.oneY_ok (gLon2_ok hW) noSpec_ok
@[go_sem] theorem gLon2_eq (W : List Int) (f : Bool) (num den : Int) (Y : YS) (ps : List PV) (hl : List PO) : gLon2 W f num den Y ps hl = firstO (gLon W f num den 2 Y ps hl) (gLon W f num den 4 Y ps hl) := rfl
theorem gearsI_c (W : List Int) (f : Bool) (num den : Int) (hW : W.length ≤ 10) : Iter Tryd.prog 66 [.agg [.sl (ints W) W.length f, .int .i64 num, .int .i64 den]] [] ((gearsL W.length).map fun g => [gT g]) := by
  refine iter_by Tryd.mixes (spGr_ok (f := f) (num := num) (den := den) hW) (fn := Tryd.f66) Tryd.func66 rfl (by kernel_rfl) rfl (by show 2 ≤ _; decide) ?_
  intro y m stop h1 h2 h3
  obtain ⟨Y, hY⟩ : ∃ Y : YS, Y = ⟨y, (gearsL W.length).map fun g => [gT g], m, stop⟩ := ⟨_, rfl⟩
  have yl : Y.l = y := by rw [hY]
  have ym : Y.m = m := by rw [hY]
  have ys : Y.stop = stop := by rw [hY]
  have yx : Y.xs = (gearsL W.length).map fun g => [gT g] := by rw [hY]
  have hlen : (gearsL W.length).length = (dfs W.length 2 []).length + (dfs W.length 4 []).length := by unfold gearsL; rw [List.length_append]
  rw [List.length_map, hlen] at h1 h2
  have hat : ∀ (i : Nat) (g : List Int), (gearsL W.length)[i]? = some g → Y.xs[i]? = some [gT g] := fun i g hg => by rw [yx, List.getElem?_map, hg]; rfl
  have p1 : preY Y 0 (dfs W.length 2 []) := ⟨fun i g hg _ => by
      rw [Nat.zero_add]
      exact hat i g (by unfold gearsL; rw [List.getElem?_append_left (List.getElem?_eq_some_iff.1 hg).1]; exact hg), fun e => by rw [ys] at e; rw [ym]; have := h2 e; omega, fun e => by rw [ys] at e; rw [ym]; exact h3 e⟩
  have p2 : ¬ (Y.stop = true ∧ Y.m ≤ 0 + (dfs W.length 2 []).length) → preY Y (0 + (dfs W.length 2 []).length) (dfs W.length 4 []) := fun hn => ⟨fun i g hg _ => by
      rw [Nat.zero_add]
      refine hat _ g ?_
      unfold gearsL
      rw [List.getElem?_append_right (by omega), show (dfs W.length 2 []).length + i - (dfs W.length 2 []).length = i by omega]; exact hg, fun e => by rw [ys] at e; rw [ym]; have := h2 e; omega, fun e => by
      have : ¬ Y.m ≤ 0 + (dfs W.length 2 []).length := fun hle => hn ⟨e, hle⟩
      omega⟩
  have g0 : gOk W.length 0 [] := ⟨rfl, List.nodup_nil, fun x hx => by cases hx⟩
  have d0 : decG .nilSl = some [] := rfl
  rw [← hY]
  by_cases hs : Y.stop = true ∧ Y.m ≤ 0 + (dfs W.length 2 []).length
  · have o1 : outY Y 0 (dfs W.length 2 []).length = (false, Y.m) := by unfold outY; rw [if_pos hs]
    rw [← yl]
    simp (decide := true) (maxSteps := 4000000) only [go_sem, Nat.reduceAdd, Nat.reduceSub, Nat.reduceMul, Nat.reduceDiv, Nat.reduceMod, Nat.reduceLT, Nat.reduceLeDiff, Nat.reduceEqDiff, Nat.reduceBEq, Nat.reduceBNe, Nat.reduceGT, Int.reduceAdd, Int.reduceSub, Int.reduceMul, Int.reduceNeg, Int.reduceLT, Int.reduceLE, Int.reduceEq, Int.reduceNe, Int.reduceBEq, Int.reduceBNe, Int.reduceToNat, Int.reduceGT, Int.reduceGE, ↓reduceIte, decide_true, decide_false, eq_self, Nat.mul_one, Nat.zero_mul, Nat.one_mul, Int.le_refl, Nat.le_refl, Int.cast_ofNat_Int, Tryd.f66, spGr, d0, lonT, g0, p1, o1, bodyN, ym]
    first | done | trace_state
  · have o1 : outY Y 0 (dfs W.length 2 []).length = (true, 0 + (dfs W.length 2 []).length) := by unfold outY; rw [if_neg hs]
    have p2' := p2 hs
    have o2 : (outY Y (0 + (dfs W.length 2 []).length) (dfs W.length 4 []).length).2 = m := by
      unfold outY
      split
      · exact ym
      · rename_i hn
        rw [ys, ym] at hn
        cases stop with
        | false => have := h2 rfl; simp only; omega
        | true => simp only [true_and] at hn; simp only; omega
    obtain ⟨⟨ob, oc⟩, hov⟩ : ∃ o, outY Y (0 + (dfs W.length 2 []).length) (dfs W.length 4 []).length = o := ⟨_, rfl⟩
    rw [hov] at o2
    simp only at o2
    subst o2
    rw [Nat.zero_add] at o1 p2' hov
    rw [← yl]
    simp (decide := true) (maxSteps := 4000000) only [go_sem, Nat.reduceAdd, Nat.reduceSub, Nat.reduceMul, Nat.reduceDiv, Nat.reduceMod, Nat.reduceLT, Nat.reduceLeDiff, Nat.reduceEqDiff, Nat.reduceBEq, Nat.reduceBNe, Nat.reduceGT, Int.reduceAdd, Int.reduceSub, Int.reduceMul, Int.reduceNeg, Int.reduceLT, Int.reduceLE, Int.reduceEq, Int.reduceNe, Int.reduceBEq, Int.reduceBNe, Int.reduceToNat, Int.reduceGT, Int.reduceGE, ↓reduceIte, decide_true, decide_false, eq_self, Nat.mul_one, Nat.zero_mul, Nat.one_mul, Int.le_refl, Nat.le_refl, Int.cast_ofNat_Int, Tryd.f66, spGr, d0, lonT, g0, p1, o1, p2', hov, bodyN]
    first | done | trace_state
end Go.Proofs.YtlonlnfenbadbaaDoor

/- Part TGe. -/
namespace Go.Ow
open Go Go.RowKit Go.Pm Go.Oc Go.Oh
/-- A lathe's wheels. -/
def whOk (W : List Int) : Prop := (2 ≤ W.length ∧ W.length ≤ 10) ∧ ∀ x ∈ W, 10 ≤ x ∧ x ≤ 200
def at_ (W : List Int) (a : Int) : Int := Ix.nthI W a
theorem at_get {W : List Int} {a : Int} (h1 : 0 ≤ a) (h2 : a < W.length) : W[a.toNat]? = some (at_ W a) := by
  have hx : W[a.toNat]? = some (W[a.toNat]'(by omega)) := List.getElem?_eq_getElem (by omega)
  have h := Ix.nthI_at hx
  rw [Int.toNat_of_nonneg h1] at h
  unfold at_
  rw [h]; exact hx
theorem at_drop {W : List Int} {a : Int} (h1 : 0 ≤ a) (h2 : a < W.length) : (ints W).drop a.toNat = .int .i64 (at_ W a) :: ints (W.drop (a.toNat + 1)) := by
  have hx := at_get h1 h2
  have := ints_at hx
  rwa [Nat.mul_one] at this
theorem at_b {W : List Int} (h : whOk W) {a : Int} (h1 : 0 ≤ a) (h2 : a < W.length) : 10 ≤ at_ W a ∧ at_ W a ≤ 200 := h.2 _ (List.mem_of_getElem? (at_get h1 h2))
theorem mul_b {x y : Int} {B : Int} (h1 : 1 ≤ x ∧ x ≤ B) (h2 : 10 ≤ y ∧ y ≤ 200) : 1 ≤ x * y ∧ x * y ≤ B * 200 := by
  have a := Int.mul_le_mul h1.2 h2.2 (by omega) (by omega)
  have b := Int.mul_le_mul h1.1 (show 1 ≤ y by omega) (by omega) (by omega)
  omega
end Go.Ow
namespace Go.Proofs.YtlonlnfenbadbaaDoor
open Go.RowKit Go.Pm Go.Oc Go.Oh Go.Ow
set_option maxRecDepth 100000
set_option linter.unusedVariables false
set_option maxHeartbeats 8000000

def latT (W : List Int) (f : Bool) (num den : Int) : TV := .agg [.sl (ints W) W.length f, .int .i64 num, .int .i64 den]
theorem sCuts2_c (W : List Int) (f fg : Bool) (num den : Int) (hW : whOk W) (hn : 1 ≤ num ∧ num ≤ 1000) (hdn : 1 ≤ den ∧ den ≤ 1000) (a b : Int) (ha : 0 ≤ a ∧ a < W.length) (hb : 0 ≤ b ∧ b < W.length) : PCalls Tryd.prog 67 [latT W f num den, .sl [.int .i64 a, .int .i64 b] 2 fg] (.agg [.int .i64 (num * at_ W a), .int .i64 (den * at_ W b)]) := by
  have da := at_drop ha.1 ha.2
  have ba := at_b hW ha.1 ha.2
  have db := at_drop hb.1 hb.2
  have bb := at_b hW hb.1 hb.2
  have m1 := mul_b hn ba
  have m2 := mul_b hdn bb
  have w1 : IntKind.i64.wrap (num * at_ W a) = num * at_ W a := wrap_in (by omega) (by omega)
  have w2 : IntKind.i64.wrap (den * at_ W b) = den * at_ W b := wrap_in (by omega) (by omega)
  refine pcalls_by Tryd.mixes noSpec_ok (fn := Tryd.f67) Tryd.func67 rfl (by kernel_rfl) (by show 2 ≤ _; decide) ?_
  simp (decide := true) (maxSteps := 4000000) only [go_sem, Nat.reduceAdd, Nat.reduceSub, Nat.reduceMul, Nat.reduceDiv, Nat.reduceMod, Nat.reduceLT, Nat.reduceLeDiff, Nat.reduceEqDiff, Nat.reduceBEq, Nat.reduceBNe, Nat.reduceGT, Int.reduceAdd, Int.reduceSub, Int.reduceMul, Int.reduceNeg, Int.reduceLT, Int.reduceLE, Int.reduceEq, Int.reduceNe, Int.reduceBEq, Int.reduceBNe, Int.reduceToNat, Int.reduceGT, Int.reduceGE, ↓reduceIte, decide_true, decide_false, eq_self, Nat.mul_one, Nat.zero_mul, Nat.one_mul, Int.le_refl, Nat.le_refl, Int.cast_ofNat_Int, Tryd.f67, latT]
  refine pwpC_loopU (A := { j : Nat // j ≤ 1 }) [1, 2, 4, 5] (fun j => [(6, .t (.int .i64 ((2 * j.1 : Nat) : Int)))]) (fun j => [(2, .box [.t (.int .i64 (match j.1 with | 0 => num | _ => num * at_ W a)), .t (.int .i64 (match j.1 with | 0 => den | _ => den * at_ W b))])]) (fun j => 1 - j.1) ⟨0, by omega⟩ (by decide) (fun _ => by rfl) ?_ fun Q1 hQ1 ⟨j, hj⟩ I1 hI1 => ?_
  · simp (decide := true) (maxSteps := 4000000) only [go_sem, Nat.reduceAdd, Nat.reduceSub, Nat.reduceMul, Nat.reduceDiv, Nat.reduceMod, Nat.reduceLT, Nat.reduceLeDiff, Nat.reduceEqDiff, Nat.reduceBEq, Nat.reduceBNe, Nat.reduceGT, Int.reduceAdd, Int.reduceSub, Int.reduceMul, Int.reduceNeg, Int.reduceLT, Int.reduceLE, Int.reduceEq, Int.reduceNe, Int.reduceBEq, Int.reduceBNe, Int.reduceToNat, Int.reduceGT, Int.reduceGE, ↓reduceIte, decide_true, decide_false, eq_self, Nat.mul_one, Nat.zero_mul, Nat.one_mul, Int.le_refl, Nat.le_refl, Int.cast_ofNat_Int, Nat.mul_zero]
    first | done | trace_state
  · rcases (by omega : j = 0 ∨ j = 1) with rfl | rfl
    · simp (decide := true) (maxSteps := 4000000) only [go_sem, Nat.reduceAdd, Nat.reduceSub, Nat.reduceMul, Nat.reduceDiv, Nat.reduceMod, Nat.reduceLT, Nat.reduceLeDiff, Nat.reduceEqDiff, Nat.reduceBEq, Nat.reduceBNe, Nat.reduceGT, Int.reduceAdd, Int.reduceSub, Int.reduceMul, Int.reduceNeg, Int.reduceLT, Int.reduceLE, Int.reduceEq, Int.reduceNe, Int.reduceBEq, Int.reduceBNe, Int.reduceToNat, Int.reduceGT, Int.reduceGE, ↓reduceIte, decide_true, decide_false, eq_self, Nat.mul_one, Nat.zero_mul, Nat.one_mul, Int.le_refl, Nat.le_refl, Int.cast_ofNat_Int, Nat.mul_zero, show IntKind.i64.wrap 1 = 1 from rfl, show IntKind.i64.wrap 3 = 3 from rfl, ha, hb, da, db, w1, w2, Nat.mul_one]
      refine hI1 _ ⟨1, by omega⟩ (by simp only; omega) ?_
      simp (decide := true) (maxSteps := 4000000) only [go_sem, Nat.reduceAdd, Nat.reduceSub, Nat.reduceMul, Nat.reduceDiv, Nat.reduceMod, Nat.reduceLT, Nat.reduceLeDiff, Nat.reduceEqDiff, Nat.reduceBEq, Nat.reduceBNe, Nat.reduceGT, Int.reduceAdd, Int.reduceSub, Int.reduceMul, Int.reduceNeg, Int.reduceLT, Int.reduceLE, Int.reduceEq, Int.reduceNe, Int.reduceBEq, Int.reduceBNe, Int.reduceToNat, Int.reduceGT, Int.reduceGE, ↓reduceIte, decide_true, decide_false, eq_self, Nat.mul_one, Nat.zero_mul, Nat.one_mul, Int.le_refl, Nat.le_refl, Int.cast_ofNat_Int, show IntKind.i64.wrap 2 = 2 from rfl]
      first | done | trace_state
    · simp (decide := true) (maxSteps := 4000000) only [go_sem, Nat.reduceAdd, Nat.reduceSub, Nat.reduceMul, Nat.reduceDiv, Nat.reduceMod, Nat.reduceLT, Nat.reduceLeDiff, Nat.reduceEqDiff, Nat.reduceBEq, Nat.reduceBNe, Nat.reduceGT, Int.reduceAdd, Int.reduceSub, Int.reduceMul, Int.reduceNeg, Int.reduceLT, Int.reduceLE, Int.reduceEq, Int.reduceNe, Int.reduceBEq, Int.reduceBNe, Int.reduceToNat, Int.reduceGT, Int.reduceGE, ↓reduceIte, decide_true, decide_false, eq_self, Nat.mul_one, Nat.zero_mul, Nat.one_mul, Int.le_refl, Nat.le_refl, Int.cast_ofNat_Int]
      refine hQ1 _ _ ?_
      simp (decide := true) (maxSteps := 4000000) only [go_sem, Nat.reduceAdd, Nat.reduceSub, Nat.reduceMul, Nat.reduceDiv, Nat.reduceMod, Nat.reduceLT, Nat.reduceLeDiff, Nat.reduceEqDiff, Nat.reduceBEq, Nat.reduceBNe, Nat.reduceGT, Int.reduceAdd, Int.reduceSub, Int.reduceMul, Int.reduceNeg, Int.reduceLT, Int.reduceLE, Int.reduceEq, Int.reduceNe, Int.reduceBEq, Int.reduceBNe, Int.reduceToNat, Int.reduceGT, Int.reduceGE, ↓reduceIte, decide_true, decide_false, eq_self, Nat.mul_one, Nat.zero_mul, Nat.one_mul, Int.le_refl, Nat.le_refl, Int.cast_ofNat_Int]
      first | done | trace_state
theorem sCuts4_c (W : List Int) (f fg : Bool) (num den : Int) (hW : whOk W) (hn : 1 ≤ num ∧ num ≤ 1000) (hdn : 1 ≤ den ∧ den ≤ 1000) (a b c d : Int) (ha : 0 ≤ a ∧ a < W.length) (hb : 0 ≤ b ∧ b < W.length) (hc : 0 ≤ c ∧ c < W.length) (hd : 0 ≤ d ∧ d < W.length) : PCalls Tryd.prog 67 [latT W f num den, .sl [.int .i64 a, .int .i64 b, .int .i64 c, .int .i64 d] 4 fg] (.agg [.int .i64 (num * at_ W a * at_ W c), .int .i64 (den * at_ W b * at_ W d)]) := by
  have da := at_drop ha.1 ha.2
  have ba := at_b hW ha.1 ha.2
  have db := at_drop hb.1 hb.2
  have bb := at_b hW hb.1 hb.2
  have dc := at_drop hc.1 hc.2
  have bc := at_b hW hc.1 hc.2
  have dd := at_drop hd.1 hd.2
  have bd := at_b hW hd.1 hd.2
  have m1 := mul_b hn ba
  have m2 := mul_b hdn bb
  have w1 : IntKind.i64.wrap (num * at_ W a) = num * at_ W a := wrap_in (by omega) (by omega)
  have w2 : IntKind.i64.wrap (den * at_ W b) = den * at_ W b := wrap_in (by omega) (by omega)
  have m3 := mul_b m1 bc
  have m4 := mul_b m2 bd
  have w3 : IntKind.i64.wrap (num * at_ W a * at_ W c) = num * at_ W a * at_ W c := wrap_in (by omega) (by omega)
  have w4 : IntKind.i64.wrap (den * at_ W b * at_ W d) = den * at_ W b * at_ W d := wrap_in (by omega) (by omega)
  refine pcalls_by Tryd.mixes noSpec_ok (fn := Tryd.f67) Tryd.func67 rfl (by kernel_rfl) (by show 2 ≤ _; decide) ?_
  simp (decide := true) (maxSteps := 4000000) only [go_sem, Nat.reduceAdd, Nat.reduceSub, Nat.reduceMul, Nat.reduceDiv, Nat.reduceMod, Nat.reduceLT, Nat.reduceLeDiff, Nat.reduceEqDiff, Nat.reduceBEq, Nat.reduceBNe, Nat.reduceGT, Int.reduceAdd, Int.reduceSub, Int.reduceMul, Int.reduceNeg, Int.reduceLT, Int.reduceLE, Int.reduceEq, Int.reduceNe, Int.reduceBEq, Int.reduceBNe, Int.reduceToNat, Int.reduceGT, Int.reduceGE, ↓reduceIte, decide_true, decide_false, eq_self, Nat.mul_one, Nat.zero_mul, Nat.one_mul, Int.le_refl, Nat.le_refl, Int.cast_ofNat_Int, Tryd.f67, latT]
  refine pwpC_loopU (A := { j : Nat // j ≤ 2 }) [1, 2, 4, 5] (fun j => [(6, .t (.int .i64 ((2 * j.1 : Nat) : Int)))]) (fun j => [(2, .box [.t (.int .i64 (match j.1 with | 0 => num | 1 => num * at_ W a | _ => num * at_ W a * at_ W c)), .t (.int .i64 (match j.1 with | 0 => den | 1 => den * at_ W b | _ => den * at_ W b * at_ W d))])]) (fun j => 2 - j.1) ⟨0, by omega⟩ (by decide) (fun _ => by rfl) ?_ fun Q1 hQ1 ⟨j, hj⟩ I1 hI1 => ?_
  · simp (decide := true) (maxSteps := 4000000) only [go_sem, Nat.reduceAdd, Nat.reduceSub, Nat.reduceMul, Nat.reduceDiv, Nat.reduceMod, Nat.reduceLT, Nat.reduceLeDiff, Nat.reduceEqDiff, Nat.reduceBEq, Nat.reduceBNe, Nat.reduceGT, Int.reduceAdd, Int.reduceSub, Int.reduceMul, Int.reduceNeg, Int.reduceLT, Int.reduceLE, Int.reduceEq, Int.reduceNe, Int.reduceBEq, Int.reduceBNe, Int.reduceToNat, Int.reduceGT, Int.reduceGE, ↓reduceIte, decide_true, decide_false, eq_self, Nat.mul_one, Nat.zero_mul, Nat.one_mul, Int.le_refl, Nat.le_refl, Int.cast_ofNat_Int, Nat.mul_zero]
    first | done | trace_state
  · rcases (by omega : j = 0 ∨ j = 1 ∨ j = 2) with rfl | rfl | rfl
    · simp (decide := true) (maxSteps := 4000000) only [go_sem, Nat.reduceAdd, Nat.reduceSub, Nat.reduceMul, Nat.reduceDiv, Nat.reduceMod, Nat.reduceLT, Nat.reduceLeDiff, Nat.reduceEqDiff, Nat.reduceBEq, Nat.reduceBNe, Nat.reduceGT, Int.reduceAdd, Int.reduceSub, Int.reduceMul, Int.reduceNeg, Int.reduceLT, Int.reduceLE, Int.reduceEq, Int.reduceNe, Int.reduceBEq, Int.reduceBNe, Int.reduceToNat, Int.reduceGT, Int.reduceGE, ↓reduceIte, decide_true, decide_false, eq_self, Nat.mul_one, Nat.zero_mul, Nat.one_mul, Int.le_refl, Nat.le_refl, Int.cast_ofNat_Int, Nat.mul_zero, show IntKind.i64.wrap 1 = 1 from rfl, show IntKind.i64.wrap 3 = 3 from rfl, ha, hb, da, db, w1, w2, Nat.mul_one]
      refine hI1 _ ⟨1, by omega⟩ (by simp only; omega) ?_
      simp (decide := true) (maxSteps := 4000000) only [go_sem, Nat.reduceAdd, Nat.reduceSub, Nat.reduceMul, Nat.reduceDiv, Nat.reduceMod, Nat.reduceLT, Nat.reduceLeDiff, Nat.reduceEqDiff, Nat.reduceBEq, Nat.reduceBNe, Nat.reduceGT, Int.reduceAdd, Int.reduceSub, Int.reduceMul, Int.reduceNeg, Int.reduceLT, Int.reduceLE, Int.reduceEq, Int.reduceNe, Int.reduceBEq, Int.reduceBNe, Int.reduceToNat, Int.reduceGT, Int.reduceGE, ↓reduceIte, decide_true, decide_false, eq_self, Nat.mul_one, Nat.zero_mul, Nat.one_mul, Int.le_refl, Nat.le_refl, Int.cast_ofNat_Int, show IntKind.i64.wrap 2 = 2 from rfl]
      first | done | trace_state
    · simp (decide := true) (maxSteps := 4000000) only [go_sem, Nat.reduceAdd, Nat.reduceSub, Nat.reduceMul, Nat.reduceDiv, Nat.reduceMod, Nat.reduceLT, Nat.reduceLeDiff, Nat.reduceEqDiff, Nat.reduceBEq, Nat.reduceBNe, Nat.reduceGT, Int.reduceAdd, Int.reduceSub, Int.reduceMul, Int.reduceNeg, Int.reduceLT, Int.reduceLE, Int.reduceEq, Int.reduceNe, Int.reduceBEq, Int.reduceBNe, Int.reduceToNat, Int.reduceGT, Int.reduceGE, ↓reduceIte, decide_true, decide_false, eq_self, Nat.mul_one, Nat.zero_mul, Nat.one_mul, Int.le_refl, Nat.le_refl, Int.cast_ofNat_Int, Nat.mul_zero, show IntKind.i64.wrap 1 = 1 from rfl, show IntKind.i64.wrap 3 = 3 from rfl, hc, hd, dc, dd, w3, w4, Nat.mul_one]
      refine hI1 _ ⟨2, by omega⟩ (by simp only; omega) ?_
      simp (decide := true) (maxSteps := 4000000) only [go_sem, Nat.reduceAdd, Nat.reduceSub, Nat.reduceMul, Nat.reduceDiv, Nat.reduceMod, Nat.reduceLT, Nat.reduceLeDiff, Nat.reduceEqDiff, Nat.reduceBEq, Nat.reduceBNe, Nat.reduceGT, Int.reduceAdd, Int.reduceSub, Int.reduceMul, Int.reduceNeg, Int.reduceLT, Int.reduceLE, Int.reduceEq, Int.reduceNe, Int.reduceBEq, Int.reduceBNe, Int.reduceToNat, Int.reduceGT, Int.reduceGE, ↓reduceIte, decide_true, decide_false, eq_self, Nat.mul_one, Nat.zero_mul, Nat.one_mul, Int.le_refl, Nat.le_refl, Int.cast_ofNat_Int, show IntKind.i64.wrap 4 = 4 from rfl]
      first | done | trace_state
    · simp (decide := true) (maxSteps := 4000000) only [go_sem, Nat.reduceAdd, Nat.reduceSub, Nat.reduceMul, Nat.reduceDiv, Nat.reduceMod, Nat.reduceLT, Nat.reduceLeDiff, Nat.reduceEqDiff, Nat.reduceBEq, Nat.reduceBNe, Nat.reduceGT, Int.reduceAdd, Int.reduceSub, Int.reduceMul, Int.reduceNeg, Int.reduceLT, Int.reduceLE, Int.reduceEq, Int.reduceNe, Int.reduceBEq, Int.reduceBNe, Int.reduceToNat, Int.reduceGT, Int.reduceGE, ↓reduceIte, decide_true, decide_false, eq_self, Nat.mul_one, Nat.zero_mul, Nat.one_mul, Int.le_refl, Nat.le_refl, Int.cast_ofNat_Int]
      refine hQ1 _ _ ?_
      simp (decide := true) (maxSteps := 4000000) only [go_sem, Nat.reduceAdd, Nat.reduceSub, Nat.reduceMul, Nat.reduceDiv, Nat.reduceMod, Nat.reduceLT, Nat.reduceLeDiff, Nat.reduceEqDiff, Nat.reduceBEq, Nat.reduceBNe, Nat.reduceGT, Int.reduceAdd, Int.reduceSub, Int.reduceMul, Int.reduceNeg, Int.reduceLT, Int.reduceLE, Int.reduceEq, Int.reduceNe, Int.reduceBEq, Int.reduceBNe, Int.reduceToNat, Int.reduceGT, Int.reduceGE, ↓reduceIte, decide_true, decide_false, eq_self, Nat.mul_one, Nat.zero_mul, Nat.one_mul, Int.le_refl, Nat.le_refl, Int.cast_ofNat_Int]
      first | done | trace_state
theorem sIsPitch_c (a b : Int) : PCalls Tryd.prog 64 [.agg [.int .i64 a, .int .i64 b]] (.bool (inB a 1 1000 && inB b 1 1000)) := by
  refine pcalls_by Tryd.mixes spGl_ok (fn := Tryd.f64) Tryd.func64 rfl (by kernel_rfl) (by show 1 ≤ _; decide) ?_
  cases h1 : inB a 1 1000 <;> cases h2 : inB b 1 1000 <;> simp (decide := true) (maxSteps := 4000000) only [go_sem, Nat.reduceAdd, Nat.reduceSub, Nat.reduceMul, Nat.reduceDiv, Nat.reduceMod, Nat.reduceLT, Nat.reduceLeDiff, Nat.reduceEqDiff, Nat.reduceBEq, Nat.reduceBNe, Nat.reduceGT, Int.reduceAdd, Int.reduceSub, Int.reduceMul, Int.reduceNeg, Int.reduceLT, Int.reduceLE, Int.reduceEq, Int.reduceNe, Int.reduceBEq, Int.reduceBNe, Int.reduceToNat, Int.reduceGT, Int.reduceGE, ↓reduceIte, decide_true, decide_false, eq_self, Nat.mul_one, Nat.zero_mul, Nat.one_mul, Int.le_refl, Nat.le_refl, Int.cast_ofNat_Int, Tryd.f64, h1, h2]
/-- A lathe with increasing wheels. -/
def latOk (W : List Int) (num den : Int) : Bool := inB W.length 2 10 && inB num 1 1000 && inB den 1 1000 && W.all fun x => inB x 10 200
theorem sCheck_c (W : List Int) (f : Bool) (num den : Int) (hs : srt W) (hl : W.length ≤ 17592186044415) : PCalls Tryd.prog 63 [latT W f num den] (.int .i64 (if latOk W num den then 0 else 20)) := by
  have hS := sSorted_c f hs hl
  refine pcalls_by Tryd.mixes (Spec.one_ok (oneP_ok hS) spGl_ok) (fn := Tryd.f63) Tryd.func63 rfl (by kernel_rfl) (by show 1 ≤ _; decide) ?_
  unfold latOk
  by_cases hall : inB W.length 2 10 = true ∧ inB num 1 1000 = true ∧ inB den 1 1000 = true
  · obtain ⟨h1, h2, h3⟩ := hall
    have hp : ∀ k, k < W.length → ∀ x, W[k]? = some x → (W.take (k + 1)).all (fun x => inB x 10 200) = ((W.take k).all (fun x => inB x 10 200) && inB x 10 200) := fun k hk x hx => by
      rw [List.take_add_one, hx, List.all_append]; simp
    rw [h1, h2, h3]
    simp (decide := true) (maxSteps := 4000000) only [go_sem, Nat.reduceAdd, Nat.reduceSub, Nat.reduceMul, Nat.reduceDiv, Nat.reduceMod, Nat.reduceLT, Nat.reduceLeDiff, Nat.reduceEqDiff, Nat.reduceBEq, Nat.reduceBNe, Nat.reduceGT, Int.reduceAdd, Int.reduceSub, Int.reduceMul, Int.reduceNeg, Int.reduceLT, Int.reduceLE, Int.reduceEq, Int.reduceNe, Int.reduceBEq, Int.reduceBNe, Int.reduceToNat, Int.reduceGT, Int.reduceGE, ↓reduceIte, decide_true, decide_false, eq_self, Nat.mul_one, Nat.zero_mul, Nat.one_mul, Int.le_refl, Nat.le_refl, Int.cast_ofNat_Int, Tryd.f63, latT, h1, h2, h3]
    refine pwpC_loopU (A := { k : Nat // k ≤ W.length }) [1, 26, 27] (fun k => [(28, .t (.int .i64 k.1)), (3, .t (.bool ((W.take k.1).all fun x => inB x 10 200)))]) (fun _ => []) (fun k => W.length - k.1) ⟨0, by omega⟩ (by decide) (fun _ => by rfl) ?_ fun Q1 hQ1 ⟨k, hk⟩ I1 hI1 => ?_
    · simp (decide := true) (maxSteps := 4000000) only [go_sem, Nat.reduceAdd, Nat.reduceSub, Nat.reduceMul, Nat.reduceDiv, Nat.reduceMod, Nat.reduceLT, Nat.reduceLeDiff, Nat.reduceEqDiff, Nat.reduceBEq, Nat.reduceBNe, Nat.reduceGT, Int.reduceAdd, Int.reduceSub, Int.reduceMul, Int.reduceNeg, Int.reduceLT, Int.reduceLE, Int.reduceEq, Int.reduceNe, Int.reduceBEq, Int.reduceBNe, Int.reduceToNat, Int.reduceGT, Int.reduceGE, ↓reduceIte, decide_true, decide_false, eq_self, Nat.mul_one, Nat.zero_mul, Nat.one_mul, Int.le_refl, Nat.le_refl, Int.cast_ofNat_Int]
      first | done | trace_state
    · by_cases hlt : (k : Int) < W.length
      · obtain ⟨x, hx⟩ : ∃ x, W[k]? = some x := ⟨_, List.getElem?_eq_getElem (by omega)⟩
        have hd := ints_at hx
        rw [Nat.mul_one] at hd
        have hpk := hp k (by omega) x hx
        have hw : IntKind.i64.wrap ((k : Int) + 1) = ((k + 1 : Nat) : Int) := by rw [wrap_in (by omega) (by omega)]; omega
        cases ha : (W.take k).all (fun x => inB x 10 200)
        all_goals
          cases hb : inB x 10 200
          all_goals
            rw [ha, hb] at hpk
            simp (decide := true) (maxSteps := 4000000) only [go_sem, Nat.reduceAdd, Nat.reduceSub, Nat.reduceMul, Nat.reduceDiv, Nat.reduceMod, Nat.reduceLT, Nat.reduceLeDiff, Nat.reduceEqDiff, Nat.reduceBEq, Nat.reduceBNe, Nat.reduceGT, Int.reduceAdd, Int.reduceSub, Int.reduceMul, Int.reduceNeg, Int.reduceLT, Int.reduceLE, Int.reduceEq, Int.reduceNe, Int.reduceBEq, Int.reduceBNe, Int.reduceToNat, Int.reduceGT, Int.reduceGE, ↓reduceIte, decide_true, decide_false, eq_self, Nat.mul_one, Nat.zero_mul, Nat.one_mul, Int.le_refl, Nat.le_refl, Int.cast_ofNat_Int, hlt, hd, ha, hb]
            refine hI1 _ ⟨k + 1, by omega⟩ (by simp only; omega) ?_
            simp (decide := true) (maxSteps := 4000000) only [go_sem, Nat.reduceAdd, Nat.reduceSub, Nat.reduceMul, Nat.reduceDiv, Nat.reduceMod, Nat.reduceLT, Nat.reduceLeDiff, Nat.reduceEqDiff, Nat.reduceBEq, Nat.reduceBNe, Nat.reduceGT, Int.reduceAdd, Int.reduceSub, Int.reduceMul, Int.reduceNeg, Int.reduceLT, Int.reduceLE, Int.reduceEq, Int.reduceNe, Int.reduceBEq, Int.reduceBNe, Int.reduceToNat, Int.reduceGT, Int.reduceGE, ↓reduceIte, decide_true, decide_false, eq_self, Nat.mul_one, Nat.zero_mul, Nat.one_mul, Int.le_refl, Nat.le_refl, Int.cast_ofNat_Int, hw, hpk]
      · have hkl : k = W.length := by omega
        subst hkl
        simp (decide := true) (maxSteps := 4000000) only [go_sem, Nat.reduceAdd, Nat.reduceSub, Nat.reduceMul, Nat.reduceDiv, Nat.reduceMod, Nat.reduceLT, Nat.reduceLeDiff, Nat.reduceEqDiff, Nat.reduceBEq, Nat.reduceBNe, Nat.reduceGT, Int.reduceAdd, Int.reduceSub, Int.reduceMul, Int.reduceNeg, Int.reduceLT, Int.reduceLE, Int.reduceEq, Int.reduceNe, Int.reduceBEq, Int.reduceBNe, Int.reduceToNat, Int.reduceGT, Int.reduceGE, ↓reduceIte, decide_true, decide_false, eq_self, Nat.mul_one, Nat.zero_mul, Nat.one_mul, Int.le_refl, Nat.le_refl, Int.cast_ofNat_Int, hlt, List.take_length]
        refine hQ1 _ _ ?_
        cases ha : W.all (fun x => inB x 10 200)
        all_goals simp (decide := true) (maxSteps := 4000000) only [go_sem, Nat.reduceAdd, Nat.reduceSub, Nat.reduceMul, Nat.reduceDiv, Nat.reduceMod, Nat.reduceLT, Nat.reduceLeDiff, Nat.reduceEqDiff, Nat.reduceBEq, Nat.reduceBNe, Nat.reduceGT, Int.reduceAdd, Int.reduceSub, Int.reduceMul, Int.reduceNeg, Int.reduceLT, Int.reduceLE, Int.reduceEq, Int.reduceNe, Int.reduceBEq, Int.reduceBNe, Int.reduceToNat, Int.reduceGT, Int.reduceGE, ↓reduceIte, decide_true, decide_false, eq_self, Nat.mul_one, Nat.zero_mul, Nat.one_mul, Int.le_refl, Nat.le_refl, Int.cast_ofNat_Int, ha]
  · have hf : (inB W.length 2 10 && inB num 1 1000 && inB den 1 1000 && W.all fun x => inB x 10 200) = false := by
      cases h1 : inB W.length 2 10 <;> cases h2 : inB num 1 1000 <;> cases h3 : inB den 1 1000 <;> simp [h1, h2, h3] at hall ⊢
    rw [hf]
    cases h1 : inB W.length 2 10 <;> cases h2 : inB num 1 1000 <;> cases h3 : inB den 1 1000
    all_goals first | (exfalso; exact hall ⟨h1, h2, h3⟩) | skip
    all_goals
      simp (decide := true) (maxSteps := 4000000) only [go_sem, Nat.reduceAdd, Nat.reduceSub, Nat.reduceMul, Nat.reduceDiv, Nat.reduceMod, Nat.reduceLT, Nat.reduceLeDiff, Nat.reduceEqDiff, Nat.reduceBEq, Nat.reduceBNe, Nat.reduceGT, Int.reduceAdd, Int.reduceSub, Int.reduceMul, Int.reduceNeg, Int.reduceLT, Int.reduceLE, Int.reduceEq, Int.reduceNe, Int.reduceBEq, Int.reduceBNe, Int.reduceToNat, Int.reduceGT, Int.reduceGE, ↓reduceIte, decide_true, decide_false, eq_self, Nat.mul_one, Nat.zero_mul, Nat.one_mul, Int.le_refl, Nat.le_refl, Int.cast_ofNat_Int, Tryd.f63, latT, h1, h2, h3]
      refine pwpC_loopU (A := { k : Nat // k ≤ W.length }) [1, 26, 27] (fun k => [(28, .t (.int .i64 k.1)), (3, .t (.bool false))]) (fun _ => []) (fun k => W.length - k.1) ⟨0, by omega⟩ (by decide) (fun _ => by rfl) ?_ fun Q1 hQ1 ⟨k, hk⟩ I1 hI1 => ?_
      · simp (decide := true) (maxSteps := 4000000) only [go_sem, Nat.reduceAdd, Nat.reduceSub, Nat.reduceMul, Nat.reduceDiv, Nat.reduceMod, Nat.reduceLT, Nat.reduceLeDiff, Nat.reduceEqDiff, Nat.reduceBEq, Nat.reduceBNe, Nat.reduceGT, Int.reduceAdd, Int.reduceSub, Int.reduceMul, Int.reduceNeg, Int.reduceLT, Int.reduceLE, Int.reduceEq, Int.reduceNe, Int.reduceBEq, Int.reduceBNe, Int.reduceToNat, Int.reduceGT, Int.reduceGE, ↓reduceIte, decide_true, decide_false, eq_self, Nat.mul_one, Nat.zero_mul, Nat.one_mul, Int.le_refl, Nat.le_refl, Int.cast_ofNat_Int]
      · by_cases hlt : (k : Int) < W.length
        · obtain ⟨x, hx⟩ : ∃ x, W[k]? = some x := ⟨_, List.getElem?_eq_getElem (by omega)⟩
          have hd := ints_at hx
          rw [Nat.mul_one] at hd
          have hw : IntKind.i64.wrap ((k : Int) + 1) = ((k + 1 : Nat) : Int) := by rw [wrap_in (by omega) (by omega)]; omega
          simp (decide := true) (maxSteps := 4000000) only [go_sem, Nat.reduceAdd, Nat.reduceSub, Nat.reduceMul, Nat.reduceDiv, Nat.reduceMod, Nat.reduceLT, Nat.reduceLeDiff, Nat.reduceEqDiff, Nat.reduceBEq, Nat.reduceBNe, Nat.reduceGT, Int.reduceAdd, Int.reduceSub, Int.reduceMul, Int.reduceNeg, Int.reduceLT, Int.reduceLE, Int.reduceEq, Int.reduceNe, Int.reduceBEq, Int.reduceBNe, Int.reduceToNat, Int.reduceGT, Int.reduceGE, ↓reduceIte, decide_true, decide_false, eq_self, Nat.mul_one, Nat.zero_mul, Nat.one_mul, Int.le_refl, Nat.le_refl, Int.cast_ofNat_Int, hlt, hd]
          refine hI1 _ ⟨k + 1, by omega⟩ (by simp only; omega) ?_
          simp (decide := true) (maxSteps := 4000000) only [go_sem, Nat.reduceAdd, Nat.reduceSub, Nat.reduceMul, Nat.reduceDiv, Nat.reduceMod, Nat.reduceLT, Nat.reduceLeDiff, Nat.reduceEqDiff, Nat.reduceBEq, Nat.reduceBNe, Nat.reduceGT, Int.reduceAdd, Int.reduceSub, Int.reduceMul, Int.reduceNeg, Int.reduceLT, Int.reduceLE, Int.reduceEq, Int.reduceNe, Int.reduceBEq, Int.reduceBNe, Int.reduceToNat, Int.reduceGT, Int.reduceGE, ↓reduceIte, decide_true, decide_false, eq_self, Nat.mul_one, Nat.zero_mul, Nat.one_mul, Int.le_refl, Nat.le_refl, Int.cast_ofNat_Int, hw]
        · simp (decide := true) (maxSteps := 4000000) only [go_sem, Nat.reduceAdd, Nat.reduceSub, Nat.reduceMul, Nat.reduceDiv, Nat.reduceMod, Nat.reduceLT, Nat.reduceLeDiff, Nat.reduceEqDiff, Nat.reduceBEq, Nat.reduceBNe, Nat.reduceGT, Int.reduceAdd, Int.reduceSub, Int.reduceMul, Int.reduceNeg, Int.reduceLT, Int.reduceLE, Int.reduceEq, Int.reduceNe, Int.reduceBEq, Int.reduceBNe, Int.reduceToNat, Int.reduceGT, Int.reduceGE, ↓reduceIte, decide_true, decide_false, eq_self, Nat.mul_one, Nat.zero_mul, Nat.one_mul, Int.le_refl, Nat.le_refl, Int.cast_ofNat_Int, hlt]
          refine hQ1 _ _ ?_
          simp (decide := true) (maxSteps := 4000000) only [go_sem, Nat.reduceAdd, Nat.reduceSub, Nat.reduceMul, Nat.reduceDiv, Nat.reduceMod, Nat.reduceLT, Nat.reduceLeDiff, Nat.reduceEqDiff, Nat.reduceBEq, Nat.reduceBNe, Nat.reduceGT, Int.reduceAdd, Int.reduceSub, Int.reduceMul, Int.reduceNeg, Int.reduceLT, Int.reduceLE, Int.reduceEq, Int.reduceNe, Int.reduceBEq, Int.reduceBNe, Int.reduceToNat, Int.reduceGT, Int.reduceGE, ↓reduceIte, decide_true, decide_false, eq_self, Nat.mul_one, Nat.zero_mul, Nat.one_mul, Int.le_refl, Nat.le_refl, Int.cast_ofNat_Int]
noncomputable def spGc : Pm.Spec := (noSpec.one 115 scContains).one 112 scWithin
@[go_sem] theorem spGc_p (f : FuncId) (xs : List TV) : spGc.p f xs = Pm.Spec.p ((noSpec.one 115 scContains).one 112 scWithin) f xs := rfl
@[go_sem] theorem spGc_h (f : FuncId) (ps : List PV) (hl : List PO) : spGc.h f ps hl = Pm.Spec.h ((noSpec.one 115 scContains).one 112 scWithin) f ps hl := rfl
@[go_sem] theorem spGc_y (Y : Pm.YS) (f : FuncId) (ps : List PV) (hl : List PO) : spGc.y Y f ps hl = Pm.Spec.y ((noSpec.one 115 scContains).one 112 scWithin) Y f ps hl := rfl
@[go_sem] theorem spGc_fz (f : FuncId) : spGc.fz f = Pm.Spec.fz ((noSpec.one 115 scContains).one 112 scWithin) f := rfl
@[go_sem] theorem spGc_fr (f : FuncId) : spGc.fr f = Pm.Spec.fr ((noSpec.one 115 scContains).one 112 scWithin) f := rfl
@[go_sem] theorem spGc_yf (f : FuncId) : spGc.yf f = Pm.Spec.yf ((noSpec.one 115 scContains).one 112 scWithin) f := rfl
@[go_sem] theorem spGc_gd : spGc.gd = Pm.Spec.gd ((noSpec.one 115 scContains).one 112 scWithin) := rfl
@[go_sem] theorem spGc_mu (t : TypeId) : spGc.mu t = Pm.Spec.mu ((noSpec.one 115 scContains).one 112 scWithin) t := rfl
@[go_sem] theorem spGc_nf (t : TypeId) : spGc.nf t = Pm.Spec.nf ((noSpec.one 115 scContains).one 112 scWithin) t := rfl
theorem spGc_ok : SpecOk Tryd.prog spGc := Spec.one_ok scWithin_ok (Spec.one_ok scContains_ok noSpec_ok)
theorem sIsGears2_c (W : List Int) (f fg : Bool) (num den : Int) (hW : whOk W) (a b : Int) (ha : 0 ≤ a ∧ a < W.length) (hb : 0 ≤ b ∧ b < W.length) (nab : b ≠ a) : PCalls Tryd.prog 71 [latT W f num den, .sl [.int .i64 a, .int .i64 b] 2 fg] (.bool true) := by
  have hl := hW.1
  have wl : IntKind.i64.wrap ((W.length : Int) - 1) = (W.length : Int) - 1 := wrap_in (by omega) (by omega)
  have ia : inB a 0 ((W.length : Int) - 1) = true := inB_iff.2 (by omega)
  have ua : unI ([] : List TV) = some ([] : List Int) := unIs []
  have ca : ([] : List Int).contains a = false := by rw [← Bool.not_eq_true, List.contains_iff_mem]; simp
  have ib : inB b 0 ((W.length : Int) - 1) = true := inB_iff.2 (by omega)
  have ub : unI ([.int .i64 a] : List TV) = some ([a] : List Int) := unIs [a]
  have cb : ([a] : List Int).contains b = false := by rw [← Bool.not_eq_true, List.contains_iff_mem]; simp [nab]
  refine pcalls_by Tryd.mixes spGc_ok (fn := Tryd.f71) Tryd.func71 rfl (by kernel_rfl) (by show 2 ≤ _; decide) ?_
  simp (decide := true) (maxSteps := 4000000) only [go_sem, Nat.reduceAdd, Nat.reduceSub, Nat.reduceMul, Nat.reduceDiv, Nat.reduceMod, Nat.reduceLT, Nat.reduceLeDiff, Nat.reduceEqDiff, Nat.reduceBEq, Nat.reduceBNe, Nat.reduceGT, Int.reduceAdd, Int.reduceSub, Int.reduceMul, Int.reduceNeg, Int.reduceLT, Int.reduceLE, Int.reduceEq, Int.reduceNe, Int.reduceBEq, Int.reduceBNe, Int.reduceToNat, Int.reduceGT, Int.reduceGE, ↓reduceIte, decide_true, decide_false, eq_self, Nat.mul_one, Nat.zero_mul, Nat.one_mul, Int.le_refl, Nat.le_refl, Int.cast_ofNat_Int, Tryd.f71, latT]
  refine pwpC_loopU (A := { j : Nat // j ≤ 2 }) [1, 2, 15, 16] (fun j => [(17, .t (.int .i64 (j.1 : Int)))]) (fun _ => []) (fun j => 2 - j.1) ⟨0, by omega⟩ (by decide) (fun _ => by rfl) ?_ fun Q1 hQ1 ⟨j, hj⟩ I1 hI1 => ?_
  · simp (decide := true) (maxSteps := 4000000) only [go_sem, Nat.reduceAdd, Nat.reduceSub, Nat.reduceMul, Nat.reduceDiv, Nat.reduceMod, Nat.reduceLT, Nat.reduceLeDiff, Nat.reduceEqDiff, Nat.reduceBEq, Nat.reduceBNe, Nat.reduceGT, Int.reduceAdd, Int.reduceSub, Int.reduceMul, Int.reduceNeg, Int.reduceLT, Int.reduceLE, Int.reduceEq, Int.reduceNe, Int.reduceBEq, Int.reduceBNe, Int.reduceToNat, Int.reduceGT, Int.reduceGE, ↓reduceIte, decide_true, decide_false, eq_self, Nat.mul_one, Nat.zero_mul, Nat.one_mul, Int.le_refl, Nat.le_refl, Int.cast_ofNat_Int]
  · rcases (by omega : j = 0 ∨ j = 1 ∨ j = 2) with rfl | rfl | rfl
    · simp (decide := true) (maxSteps := 4000000) only [go_sem, Nat.reduceAdd, Nat.reduceSub, Nat.reduceMul, Nat.reduceDiv, Nat.reduceMod, Nat.reduceLT, Nat.reduceLeDiff, Nat.reduceEqDiff, Nat.reduceBEq, Nat.reduceBNe, Nat.reduceGT, Int.reduceAdd, Int.reduceSub, Int.reduceMul, Int.reduceNeg, Int.reduceLT, Int.reduceLE, Int.reduceEq, Int.reduceNe, Int.reduceBEq, Int.reduceBNe, Int.reduceToNat, Int.reduceGT, Int.reduceGE, ↓reduceIte, decide_true, decide_false, eq_self, Nat.mul_one, Nat.zero_mul, Nat.one_mul, Int.le_refl, Nat.le_refl, Int.cast_ofNat_Int, wl, ia, ua, ca]
      refine hI1 _ ⟨1, by omega⟩ (by simp only; omega) ?_
      simp (decide := true) (maxSteps := 4000000) only [go_sem, Nat.reduceAdd, Nat.reduceSub, Nat.reduceMul, Nat.reduceDiv, Nat.reduceMod, Nat.reduceLT, Nat.reduceLeDiff, Nat.reduceEqDiff, Nat.reduceBEq, Nat.reduceBNe, Nat.reduceGT, Int.reduceAdd, Int.reduceSub, Int.reduceMul, Int.reduceNeg, Int.reduceLT, Int.reduceLE, Int.reduceEq, Int.reduceNe, Int.reduceBEq, Int.reduceBNe, Int.reduceToNat, Int.reduceGT, Int.reduceGE, ↓reduceIte, decide_true, decide_false, eq_self, Nat.mul_one, Nat.zero_mul, Nat.one_mul, Int.le_refl, Nat.le_refl, Int.cast_ofNat_Int, show IntKind.i64.wrap 1 = 1 from rfl]
      first | done | trace_state
    · simp (decide := true) (maxSteps := 4000000) only [go_sem, Nat.reduceAdd, Nat.reduceSub, Nat.reduceMul, Nat.reduceDiv, Nat.reduceMod, Nat.reduceLT, Nat.reduceLeDiff, Nat.reduceEqDiff, Nat.reduceBEq, Nat.reduceBNe, Nat.reduceGT, Int.reduceAdd, Int.reduceSub, Int.reduceMul, Int.reduceNeg, Int.reduceLT, Int.reduceLE, Int.reduceEq, Int.reduceNe, Int.reduceBEq, Int.reduceBNe, Int.reduceToNat, Int.reduceGT, Int.reduceGE, ↓reduceIte, decide_true, decide_false, eq_self, Nat.mul_one, Nat.zero_mul, Nat.one_mul, Int.le_refl, Nat.le_refl, Int.cast_ofNat_Int, wl, ib, ub, cb]
      refine hI1 _ ⟨2, by omega⟩ (by simp only; omega) ?_
      simp (decide := true) (maxSteps := 4000000) only [go_sem, Nat.reduceAdd, Nat.reduceSub, Nat.reduceMul, Nat.reduceDiv, Nat.reduceMod, Nat.reduceLT, Nat.reduceLeDiff, Nat.reduceEqDiff, Nat.reduceBEq, Nat.reduceBNe, Nat.reduceGT, Int.reduceAdd, Int.reduceSub, Int.reduceMul, Int.reduceNeg, Int.reduceLT, Int.reduceLE, Int.reduceEq, Int.reduceNe, Int.reduceBEq, Int.reduceBNe, Int.reduceToNat, Int.reduceGT, Int.reduceGE, ↓reduceIte, decide_true, decide_false, eq_self, Nat.mul_one, Nat.zero_mul, Nat.one_mul, Int.le_refl, Nat.le_refl, Int.cast_ofNat_Int, show IntKind.i64.wrap 2 = 2 from rfl]
      first | done | trace_state
    · simp (decide := true) (maxSteps := 4000000) only [go_sem, Nat.reduceAdd, Nat.reduceSub, Nat.reduceMul, Nat.reduceDiv, Nat.reduceMod, Nat.reduceLT, Nat.reduceLeDiff, Nat.reduceEqDiff, Nat.reduceBEq, Nat.reduceBNe, Nat.reduceGT, Int.reduceAdd, Int.reduceSub, Int.reduceMul, Int.reduceNeg, Int.reduceLT, Int.reduceLE, Int.reduceEq, Int.reduceNe, Int.reduceBEq, Int.reduceBNe, Int.reduceToNat, Int.reduceGT, Int.reduceGE, ↓reduceIte, decide_true, decide_false, eq_self, Nat.mul_one, Nat.zero_mul, Nat.one_mul, Int.le_refl, Nat.le_refl, Int.cast_ofNat_Int]
      refine hQ1 _ _ ?_
      simp (decide := true) (maxSteps := 4000000) only [go_sem, Nat.reduceAdd, Nat.reduceSub, Nat.reduceMul, Nat.reduceDiv, Nat.reduceMod, Nat.reduceLT, Nat.reduceLeDiff, Nat.reduceEqDiff, Nat.reduceBEq, Nat.reduceBNe, Nat.reduceGT, Int.reduceAdd, Int.reduceSub, Int.reduceMul, Int.reduceNeg, Int.reduceLT, Int.reduceLE, Int.reduceEq, Int.reduceNe, Int.reduceBEq, Int.reduceBNe, Int.reduceToNat, Int.reduceGT, Int.reduceGE, ↓reduceIte, decide_true, decide_false, eq_self, Nat.mul_one, Nat.zero_mul, Nat.one_mul, Int.le_refl, Nat.le_refl, Int.cast_ofNat_Int]
      first | done | trace_state
theorem sIsGears4_c (W : List Int) (f fg : Bool) (num den : Int) (hW : whOk W) (a b c d : Int) (ha : 0 ≤ a ∧ a < W.length) (hb : 0 ≤ b ∧ b < W.length) (hc : 0 ≤ c ∧ c < W.length) (hd : 0 ≤ d ∧ d < W.length) (nab : b ≠ a) (nac : c ≠ a) (nbc : c ≠ b) (nad : d ≠ a) (nbd : d ≠ b) (ncd : d ≠ c) : PCalls Tryd.prog 71 [latT W f num den, .sl [.int .i64 a, .int .i64 b, .int .i64 c, .int .i64 d] 4 fg] (.bool true) := by
  have hl := hW.1
  have wl : IntKind.i64.wrap ((W.length : Int) - 1) = (W.length : Int) - 1 := wrap_in (by omega) (by omega)
  have ia : inB a 0 ((W.length : Int) - 1) = true := inB_iff.2 (by omega)
  have ua : unI ([] : List TV) = some ([] : List Int) := unIs []
  have ca : ([] : List Int).contains a = false := by rw [← Bool.not_eq_true, List.contains_iff_mem]; simp
  have ib : inB b 0 ((W.length : Int) - 1) = true := inB_iff.2 (by omega)
  have ub : unI ([.int .i64 a] : List TV) = some ([a] : List Int) := unIs [a]
  have cb : ([a] : List Int).contains b = false := by rw [← Bool.not_eq_true, List.contains_iff_mem]; simp [nab]
  have ic : inB c 0 ((W.length : Int) - 1) = true := inB_iff.2 (by omega)
  have uc : unI ([.int .i64 a, .int .i64 b] : List TV) = some ([a, b] : List Int) := unIs [a, b]
  have cc : ([a, b] : List Int).contains c = false := by rw [← Bool.not_eq_true, List.contains_iff_mem]; simp [nac, nbc]
  have id : inB d 0 ((W.length : Int) - 1) = true := inB_iff.2 (by omega)
  have ud : unI ([.int .i64 a, .int .i64 b, .int .i64 c] : List TV) = some ([a, b, c] : List Int) := unIs [a, b, c]
  have cd : ([a, b, c] : List Int).contains d = false := by rw [← Bool.not_eq_true, List.contains_iff_mem]; simp [nad, nbd, ncd]
  refine pcalls_by Tryd.mixes spGc_ok (fn := Tryd.f71) Tryd.func71 rfl (by kernel_rfl) (by show 2 ≤ _; decide) ?_
  simp (decide := true) (maxSteps := 4000000) only [go_sem, Nat.reduceAdd, Nat.reduceSub, Nat.reduceMul, Nat.reduceDiv, Nat.reduceMod, Nat.reduceLT, Nat.reduceLeDiff, Nat.reduceEqDiff, Nat.reduceBEq, Nat.reduceBNe, Nat.reduceGT, Int.reduceAdd, Int.reduceSub, Int.reduceMul, Int.reduceNeg, Int.reduceLT, Int.reduceLE, Int.reduceEq, Int.reduceNe, Int.reduceBEq, Int.reduceBNe, Int.reduceToNat, Int.reduceGT, Int.reduceGE, ↓reduceIte, decide_true, decide_false, eq_self, Nat.mul_one, Nat.zero_mul, Nat.one_mul, Int.le_refl, Nat.le_refl, Int.cast_ofNat_Int, Tryd.f71, latT]
  refine pwpC_loopU (A := { j : Nat // j ≤ 4 }) [1, 2, 15, 16] (fun j => [(17, .t (.int .i64 (j.1 : Int)))]) (fun _ => []) (fun j => 4 - j.1) ⟨0, by omega⟩ (by decide) (fun _ => by rfl) ?_ fun Q1 hQ1 ⟨j, hj⟩ I1 hI1 => ?_
  · simp (decide := true) (maxSteps := 4000000) only [go_sem, Nat.reduceAdd, Nat.reduceSub, Nat.reduceMul, Nat.reduceDiv, Nat.reduceMod, Nat.reduceLT, Nat.reduceLeDiff, Nat.reduceEqDiff, Nat.reduceBEq, Nat.reduceBNe, Nat.reduceGT, Int.reduceAdd, Int.reduceSub, Int.reduceMul, Int.reduceNeg, Int.reduceLT, Int.reduceLE, Int.reduceEq, Int.reduceNe, Int.reduceBEq, Int.reduceBNe, Int.reduceToNat, Int.reduceGT, Int.reduceGE, ↓reduceIte, decide_true, decide_false, eq_self, Nat.mul_one, Nat.zero_mul, Nat.one_mul, Int.le_refl, Nat.le_refl, Int.cast_ofNat_Int]
  · rcases (by omega : j = 0 ∨ j = 1 ∨ j = 2 ∨ j = 3 ∨ j = 4) with rfl | rfl | rfl | rfl | rfl
    · simp (decide := true) (maxSteps := 4000000) only [go_sem, Nat.reduceAdd, Nat.reduceSub, Nat.reduceMul, Nat.reduceDiv, Nat.reduceMod, Nat.reduceLT, Nat.reduceLeDiff, Nat.reduceEqDiff, Nat.reduceBEq, Nat.reduceBNe, Nat.reduceGT, Int.reduceAdd, Int.reduceSub, Int.reduceMul, Int.reduceNeg, Int.reduceLT, Int.reduceLE, Int.reduceEq, Int.reduceNe, Int.reduceBEq, Int.reduceBNe, Int.reduceToNat, Int.reduceGT, Int.reduceGE, ↓reduceIte, decide_true, decide_false, eq_self, Nat.mul_one, Nat.zero_mul, Nat.one_mul, Int.le_refl, Nat.le_refl, Int.cast_ofNat_Int, wl, ia, ua, ca]
      refine hI1 _ ⟨1, by omega⟩ (by simp only; omega) ?_
      simp (decide := true) (maxSteps := 4000000) only [go_sem, Nat.reduceAdd, Nat.reduceSub, Nat.reduceMul, Nat.reduceDiv, Nat.reduceMod, Nat.reduceLT, Nat.reduceLeDiff, Nat.reduceEqDiff, Nat.reduceBEq, Nat.reduceBNe, Nat.reduceGT, Int.reduceAdd, Int.reduceSub, Int.reduceMul, Int.reduceNeg, Int.reduceLT, Int.reduceLE, Int.reduceEq, Int.reduceNe, Int.reduceBEq, Int.reduceBNe, Int.reduceToNat, Int.reduceGT, Int.reduceGE, ↓reduceIte, decide_true, decide_false, eq_self, Nat.mul_one, Nat.zero_mul, Nat.one_mul, Int.le_refl, Nat.le_refl, Int.cast_ofNat_Int, show IntKind.i64.wrap 1 = 1 from rfl]
      first | done | trace_state
    · simp (decide := true) (maxSteps := 4000000) only [go_sem, Nat.reduceAdd, Nat.reduceSub, Nat.reduceMul, Nat.reduceDiv, Nat.reduceMod, Nat.reduceLT, Nat.reduceLeDiff, Nat.reduceEqDiff, Nat.reduceBEq, Nat.reduceBNe, Nat.reduceGT, Int.reduceAdd, Int.reduceSub, Int.reduceMul, Int.reduceNeg, Int.reduceLT, Int.reduceLE, Int.reduceEq, Int.reduceNe, Int.reduceBEq, Int.reduceBNe, Int.reduceToNat, Int.reduceGT, Int.reduceGE, ↓reduceIte, decide_true, decide_false, eq_self, Nat.mul_one, Nat.zero_mul, Nat.one_mul, Int.le_refl, Nat.le_refl, Int.cast_ofNat_Int, wl, ib, ub, cb]
      refine hI1 _ ⟨2, by omega⟩ (by simp only; omega) ?_
      simp (decide := true) (maxSteps := 4000000) only [go_sem, Nat.reduceAdd, Nat.reduceSub, Nat.reduceMul, Nat.reduceDiv, Nat.reduceMod, Nat.reduceLT, Nat.reduceLeDiff, Nat.reduceEqDiff, Nat.reduceBEq, Nat.reduceBNe, Nat.reduceGT, Int.reduceAdd, Int.reduceSub, Int.reduceMul, Int.reduceNeg, Int.reduceLT, Int.reduceLE, Int.reduceEq, Int.reduceNe, Int.reduceBEq, Int.reduceBNe, Int.reduceToNat, Int.reduceGT, Int.reduceGE, ↓reduceIte, decide_true, decide_false, eq_self, Nat.mul_one, Nat.zero_mul, Nat.one_mul, Int.le_refl, Nat.le_refl, Int.cast_ofNat_Int, show IntKind.i64.wrap 2 = 2 from rfl]
      first | done | trace_state
    · simp (decide := true) (maxSteps := 4000000) only [go_sem, Nat.reduceAdd, Nat.reduceSub, Nat.reduceMul, Nat.reduceDiv, Nat.reduceMod, Nat.reduceLT, Nat.reduceLeDiff, Nat.reduceEqDiff, Nat.reduceBEq, Nat.reduceBNe, Nat.reduceGT, Int.reduceAdd, Int.reduceSub, Int.reduceMul, Int.reduceNeg, Int.reduceLT, Int.reduceLE, Int.reduceEq, Int.reduceNe, Int.reduceBEq, Int.reduceBNe, Int.reduceToNat, Int.reduceGT, Int.reduceGE, ↓reduceIte, decide_true, decide_false, eq_self, Nat.mul_one, Nat.zero_mul, Nat.one_mul, Int.le_refl, Nat.le_refl, Int.cast_ofNat_Int, wl, ic, uc, cc]
      refine hI1 _ ⟨3, by omega⟩ (by simp only; omega) ?_
      simp (decide := true) (maxSteps := 4000000) only [go_sem, Nat.reduceAdd, Nat.reduceSub, Nat.reduceMul, Nat.reduceDiv, Nat.reduceMod, Nat.reduceLT, Nat.reduceLeDiff, Nat.reduceEqDiff, Nat.reduceBEq, Nat.reduceBNe, Nat.reduceGT, Int.reduceAdd, Int.reduceSub, Int.reduceMul, Int.reduceNeg, Int.reduceLT, Int.reduceLE, Int.reduceEq, Int.reduceNe, Int.reduceBEq, Int.reduceBNe, Int.reduceToNat, Int.reduceGT, Int.reduceGE, ↓reduceIte, decide_true, decide_false, eq_self, Nat.mul_one, Nat.zero_mul, Nat.one_mul, Int.le_refl, Nat.le_refl, Int.cast_ofNat_Int, show IntKind.i64.wrap 3 = 3 from rfl]
      first | done | trace_state
    · simp (decide := true) (maxSteps := 4000000) only [go_sem, Nat.reduceAdd, Nat.reduceSub, Nat.reduceMul, Nat.reduceDiv, Nat.reduceMod, Nat.reduceLT, Nat.reduceLeDiff, Nat.reduceEqDiff, Nat.reduceBEq, Nat.reduceBNe, Nat.reduceGT, Int.reduceAdd, Int.reduceSub, Int.reduceMul, Int.reduceNeg, Int.reduceLT, Int.reduceLE, Int.reduceEq, Int.reduceNe, Int.reduceBEq, Int.reduceBNe, Int.reduceToNat, Int.reduceGT, Int.reduceGE, ↓reduceIte, decide_true, decide_false, eq_self, Nat.mul_one, Nat.zero_mul, Nat.one_mul, Int.le_refl, Nat.le_refl, Int.cast_ofNat_Int, wl, id, ud, cd]
      refine hI1 _ ⟨4, by omega⟩ (by simp only; omega) ?_
      simp (decide := true) (maxSteps := 4000000) only [go_sem, Nat.reduceAdd, Nat.reduceSub, Nat.reduceMul, Nat.reduceDiv, Nat.reduceMod, Nat.reduceLT, Nat.reduceLeDiff, Nat.reduceEqDiff, Nat.reduceBEq, Nat.reduceBNe, Nat.reduceGT, Int.reduceAdd, Int.reduceSub, Int.reduceMul, Int.reduceNeg, Int.reduceLT, Int.reduceLE, Int.reduceEq, Int.reduceNe, Int.reduceBEq, Int.reduceBNe, Int.reduceToNat, Int.reduceGT, Int.reduceGE, ↓reduceIte, decide_true, decide_false, eq_self, Nat.mul_one, Nat.zero_mul, Nat.one_mul, Int.le_refl, Nat.le_refl, Int.cast_ofNat_Int, show IntKind.i64.wrap 4 = 4 from rfl]
      first | done | trace_state
    · simp (decide := true) (maxSteps := 4000000) only [go_sem, Nat.reduceAdd, Nat.reduceSub, Nat.reduceMul, Nat.reduceDiv, Nat.reduceMod, Nat.reduceLT, Nat.reduceLeDiff, Nat.reduceEqDiff, Nat.reduceBEq, Nat.reduceBNe, Nat.reduceGT, Int.reduceAdd, Int.reduceSub, Int.reduceMul, Int.reduceNeg, Int.reduceLT, Int.reduceLE, Int.reduceEq, Int.reduceNe, Int.reduceBEq, Int.reduceBNe, Int.reduceToNat, Int.reduceGT, Int.reduceGE, ↓reduceIte, decide_true, decide_false, eq_self, Nat.mul_one, Nat.zero_mul, Nat.one_mul, Int.le_refl, Nat.le_refl, Int.cast_ofNat_Int]
      refine hQ1 _ _ ?_
      simp (decide := true) (maxSteps := 4000000) only [go_sem, Nat.reduceAdd, Nat.reduceSub, Nat.reduceMul, Nat.reduceDiv, Nat.reduceMod, Nat.reduceLT, Nat.reduceLeDiff, Nat.reduceEqDiff, Nat.reduceBEq, Nat.reduceBNe, Nat.reduceGT, Int.reduceAdd, Int.reduceSub, Int.reduceMul, Int.reduceNeg, Int.reduceLT, Int.reduceLE, Int.reduceEq, Int.reduceNe, Int.reduceBEq, Int.reduceBNe, Int.reduceToNat, Int.reduceGT, Int.reduceGE, ↓reduceIte, decide_true, decide_false, eq_self, Nat.mul_one, Nat.zero_mul, Nat.one_mul, Int.le_refl, Nat.le_refl, Int.cast_ofNat_Int]
      first | done | trace_state
/-- The pitch that gears cut. -/
def cutP (W : List Int) (num den : Int) : List Int → Int × Int
  | [a, b] => (num * at_ W a, den * at_ W b)
  | [a, b, c, d] => (num * at_ W a * at_ W c, den * at_ W b * at_ W d)
  | _ => (1, 1)
theorem cutP_b {W : List Int} (hW : whOk W) {num den : Int} (hn : 1 ≤ num ∧ num ≤ 1000) (hd : 1 ≤ den ∧ den ≤ 1000) {g : List Int} (hg : gOk W.length g.length g) : (1 ≤ (cutP W num den g).1 ∧ (cutP W num den g).1 ≤ 40000000) ∧ 1 ≤ (cutP W num den g).2 ∧ (cutP W num den g).2 ≤ 40000000 := by
  unfold cutP
  split
  · rename_i a b
    have b1 := at_b hW (hg.2.2 a (by simp)).1 (hg.2.2 a (by simp)).2
    have b2 := at_b hW (hg.2.2 b (by simp)).1 (hg.2.2 b (by simp)).2
    have m1 := mul_b hn b1
    have m2 := mul_b hd b2
    simp only; omega
  · rename_i a b c d
    have b1 := at_b hW (hg.2.2 a (by simp)).1 (hg.2.2 a (by simp)).2
    have b2 := at_b hW (hg.2.2 b (by simp)).1 (hg.2.2 b (by simp)).2
    have b3 := at_b hW (hg.2.2 c (by simp)).1 (hg.2.2 c (by simp)).2
    have b4 := at_b hW (hg.2.2 d (by simp)).1 (hg.2.2 d (by simp)).2
    have m1 := mul_b (mul_b hn b1) b3
    have m2 := mul_b (mul_b hd b2) b4
    simp only; omega
  · simp only; omega
/-- Lists of gears. -/
def isG (n : Nat) (g : List Int) : Prop := gOk n 2 g ∨ gOk n 4 g
theorem isG_cases {n : Nat} {g : List Int} (h : isG n g) : (∃ a b, g = [a, b] ∧ ((0 ≤ a ∧ a < n) ∧ 0 ≤ b ∧ b < n) ∧ b ≠ a) ∨ ∃ a b c d, g = [a, b, c, d] ∧ ((0 ≤ a ∧ a < n) ∧ (0 ≤ b ∧ b < n) ∧ (0 ≤ c ∧ c < n) ∧ 0 ≤ d ∧ d < n) ∧ b ≠ a ∧ c ≠ a ∧ c ≠ b ∧ d ≠ a ∧ d ≠ b ∧ d ≠ c := by
  rcases h with h | h
  · left
    match g, h with
    | [a, b], h =>
      have := h.2.1
      simp only [List.nodup_cons, List.mem_singleton, List.not_mem_nil, not_false_eq_true, List.nodup_nil, and_true] at this
      exact ⟨a, b, rfl, ⟨h.2.2 a (by simp), h.2.2 b (by simp)⟩, fun e => this e.symm⟩
  · right
    match g, h with
    | [a, b, c, d], h =>
      have := h.2.1
      simp only [List.nodup_cons, List.mem_cons, List.mem_singleton, List.not_mem_nil, not_false_eq_true, List.nodup_nil, and_true, or_false, not_or] at this
      exact ⟨a, b, c, d, rfl, ⟨h.2.2 a (by simp), h.2.2 b (by simp), h.2.2 c (by simp), h.2.2 d (by simp)⟩, fun e => this.1.1 e.symm, fun e => this.1.2.1 e.symm, fun e => this.2.1.1 e.symm, fun e => this.1.2.2 e.symm, fun e => this.2.1.2 e.symm, fun e => this.2.2 e.symm⟩
theorem isG_ok {n : Nat} {g : List Int} (h : isG n g) : gOk n g.length g := by rcases h with h | h <;> exact ⟨rfl, h.2⟩
theorem sCuts_c (W : List Int) (f fg : Bool) (num den : Int) (hW : whOk W) (hn : 1 ≤ num ∧ num ≤ 1000) (hdn : 1 ≤ den ∧ den ≤ 1000) {g : List Int} (hg : isG W.length g) : PCalls Tryd.prog 67 [latT W f num den, .sl (ints g) g.length fg] (.agg [.int .i64 (cutP W num den g).1, .int .i64 (cutP W num den g).2]) := by
  rcases isG_cases hg with ⟨a, b, rfl, h, _⟩ | ⟨a, b, c, d, rfl, h, _⟩
  · exact sCuts2_c W f fg num den hW hn hdn a b h.1 h.2
  · exact sCuts4_c W f fg num den hW hn hdn a b c d h.1 h.2.1 h.2.2.1 h.2.2.2
theorem sIsGears_c (W : List Int) (f fg : Bool) (num den : Int) (hW : whOk W) {g : List Int} (hg : isG W.length g) : PCalls Tryd.prog 71 [latT W f num den, .sl (ints g) g.length fg] (.bool true) := by
  rcases isG_cases hg with ⟨a, b, rfl, h, n⟩ | ⟨a, b, c, d, rfl, h, n⟩
  · exact sIsGears2_c W f fg num den hW a b h.1 h.2 n
  · exact sIsGears4_c W f fg num den hW a b c d h.1 h.2.1 h.2.2.1 h.2.2.2 n.1 n.2.1 n.2.2.1 n.2.2.2.1 n.2.2.2.2.1 n.2.2.2.2.2
theorem sPitch_c (W : List Int) (f fg : Bool) (num den : Int) (hs : srt W) (hW : whOk W) (hn : 1 ≤ num ∧ num ≤ 1000) (hdn : 1 ≤ den ∧ den ≤ 1000) {g : List Int} (hg : isG W.length g) : PCalls Tryd.prog 20 [latT W f num den, .sl (ints g) g.length fg] (.tup [.int .i64 (lowP (cutP W num den g).1 (cutP W num den g).2).1, .int .i64 (lowP (cutP W num den g).1 (cutP W num den g).2).2, .int .i64 0]) := by
  have hb := cutP_b hW hn hdn (isG_ok hg)
  have hok : latOk W num den = true := by
    unfold latOk
    rw [inB_iff.2 (show (2 : Int) ≤ W.length ∧ (W.length : Int) ≤ 10 by have := hW.1; omega), inB_iff.2 hn, inB_iff.2 hdn, Bool.true_and, Bool.true_and, Bool.true_and, List.all_eq_true]
    exact fun x hx => inB_iff.2 (hW.2 x hx)
  have hC := sCheck_c W f num den hs (by have := hW.1; omega)
  rw [hok, if_pos rfl] at hC
  have hG := sIsGears_c W f fg num den hW hg
  have hU := sCuts_c W f fg num den hW hn hdn hg
  have hL := sLowest_c (cutP W num den g).1 (cutP W num den g).2 (by omega) (by omega)
  generalize cutP W num den g = cu at *
  obtain ⟨c1, c2⟩ := cu
  generalize lowP c1 c2 = lo at *
  refine pcalls_by Tryd.mixes (Spec.one_ok (oneP_ok hC) (Spec.one_ok (oneP_ok hG) (Spec.one_ok (oneP_ok hU) (Spec.one_ok (oneP_ok hL) noSpec_ok)))) (fn := Tryd.f20) Tryd.func20 rfl (by kernel_rfl) (by show 2 ≤ _; decide) ?_
  simp (decide := true) (maxSteps := 4000000) only [go_sem, Nat.reduceAdd, Nat.reduceSub, Nat.reduceMul, Nat.reduceDiv, Nat.reduceMod, Nat.reduceLT, Nat.reduceLeDiff, Nat.reduceEqDiff, Nat.reduceBEq, Nat.reduceBNe, Nat.reduceGT, Int.reduceAdd, Int.reduceSub, Int.reduceMul, Int.reduceNeg, Int.reduceLT, Int.reduceLE, Int.reduceEq, Int.reduceNe, Int.reduceBEq, Int.reduceBNe, Int.reduceToNat, Int.reduceGT, Int.reduceGE, ↓reduceIte, decide_true, decide_false, eq_self, Nat.mul_one, Nat.zero_mul, Nat.one_mul, Int.le_refl, Nat.le_refl, Int.cast_ofNat_Int, Tryd.f20, latT]
  first | done | trace_state
end Go.Proofs.YtlonlnfenbadbaaDoor

/- Part TGf. -/
namespace Go.Proofs.YtlonlnfenbadbaaDoor
open Go.RowKit Go.Pm Go.Oc Go.Oh Go.Ow
set_option maxRecDepth 100000
set_option linter.unusedVariables false
set_option maxHeartbeats 8000000

/-- Do gears cut it? -/
def cutsB (W : List Int) (num den p q : Int) (g : List Int) : Bool := decide (lowP (cutP W num den g).1 (cutP W num den g).2 = lowP p q)
theorem gearsL_ok (n : Nat) : ∀ g ∈ gearsL n, isG n g := by
  intro g hg
  have h0 : gOk n 0 [] := ⟨rfl, List.nodup_nil, fun x hx => by cases hx⟩
  rcases List.mem_append.1 hg with hg | hg
  · exact .inl (by have := dfs_ok n 2 [] 0 h0 g hg; simpa using this)
  · exact .inr (by have := dfs_ok n 4 [] 0 h0 g hg; simpa using this)
open Classical in
noncomputable def gCuts (W : List Int) (f : Bool) (num den : Int) : List TV → Option TV
  | [lt, g] => match decG g with
    | some l => if lt = latT W f num den ∧ isG W.length l then some (.agg [.int .i64 (cutP W num den l).1, .int .i64 (cutP W num den l).2]) else none
    | none => none
  | _ => none
theorem gCuts_ok {W : List Int} {f : Bool} {num den : Int} (hW : whOk W) (hn : 1 ≤ num ∧ num ≤ 1000) (hdn : 1 ≤ den ∧ den ≤ 1000) : ∀ xs r, gCuts W f num den xs = some r → PCalls Tryd.prog 67 xs r := by
  intro xs r e
  unfold gCuts at e
  split at e
  · split at e
    · rename_i l hl
      split at e
      · rename_i hc
        obtain ⟨rfl, hg⟩ := hc
        cases e
        have h0 : ¬ l.length = 0 := by rcases hg with h | h <;> (rw [h.1]; omega)
        rw [decG_some hl]; unfold gT; rw [if_neg h0]
        exact sCuts_c W f false num den hW hn hdn hg
      · cases e
    · cases e
  · cases e
open Classical in
@[go_sem] theorem gCuts_eq (W : List Int) (f : Bool) (num den : Int) (lt g : TV) : gCuts W f num den [lt, g] = match decG g with
    | some l => if lt = latT W f num den ∧ isG W.length l then some (.agg [.int .i64 (cutP W num den l).1, .int .i64 (cutP W num den l).2]) else none
    | none => none := rfl
noncomputable def scLowest : List TV → Option TV
  | [.agg [.int .i64 a, .int .i64 b]] => if (0 < a ∧ a ≤ 1000000000000) ∧ 0 < b ∧ b ≤ 1000000000000 then some (.agg [.int .i64 (lowP a b).1, .int .i64 (lowP a b).2]) else none
  | _ => none
theorem scLowest_ok : ∀ xs r, scLowest xs = some r → PCalls Tryd.prog 65 xs r := by
  intro xs r h
  unfold scLowest at h
  split at h
  · split at h
    · rename_i hc; cases h; exact sLowest_c _ _ hc.1 hc.2
    · cases h
  · cases h
attribute [go_sem] scLowest
noncomputable def scIsPitch : List TV → Option TV
  | [.agg [.int .i64 a, .int .i64 b]] => some (.bool (inB a 1 1000 && inB b 1 1000))
  | _ => none
theorem scIsPitch_ok : ∀ xs r, scIsPitch xs = some r → PCalls Tryd.prog 64 xs r := by
  intro xs r h
  unfold scIsPitch at h
  split at h
  · cases h; exact sIsPitch_c _ _
  · cases h
attribute [go_sem] scIsPitch
theorem key_pitch (a b : Int) : keyOk Tryd.prog 123 (.agg [.int .i64 a, .int .i64 b]) = true := by kernel_rfl
theorem decG_gT (g : List Int) : decG (gT g) = some g := by
  unfold gT
  split
  · rename_i h; rw [List.eq_nil_of_length_eq_zero h]; rfl
  · rename_i h; unfold decG; simp only [unIs]; rw [if_pos ⟨trivial, h⟩]
theorem find_at {α : Type} (p : α → Bool) : ∀ l : List α, (∀ g, l.find? p = some g → ∃ i : Nat, l[i]? = some g ∧ p g = true ∧ ∀ (j : Nat) (g' : α), j < i → l[j]? = some g' → p g' = false) ∧ (l.find? p = none → ∀ (j : Nat) (g' : α), l[j]? = some g' → p g' = false)
  | [] => ⟨fun g h => (by cases h), fun _ j g' h => (by cases j <;> cases h)⟩
  | x :: l => by
    obtain ⟨i1, i2⟩ := find_at p l
    rw [List.find?_cons]
    cases hx : p x with
    | true =>
      refine ⟨fun g h => ?_, fun h => by cases h⟩
      cases h
      exact ⟨0, rfl, hx, fun j g' hj => by omega⟩
    | false =>
      refine ⟨fun g h => ?_, fun h j g' hg => ?_⟩
      · obtain ⟨i, a, b, c⟩ := i1 g h
        refine ⟨i + 1, a, b, fun j g' hj hg => ?_⟩
        cases j with
        | zero => cases hg; exact hx
        | succ j => exact c j g' (by omega) hg
      · cases j with
        | zero => cases hg; exact hx
        | succ j => exact i2 h j g' hg
theorem updT_same (f : TV → Option TV) (k x : TV) : updT f k x k = some x := by simp [updT]
theorem sCut_c (W : List Int) (f : Bool) (num den p q : Int) (hs : srt W) (hW : whOk W) (hn : 1 ≤ num ∧ num ≤ 1000) (hdn : 1 ≤ den ∧ den ≤ 1000) (hp : 1 ≤ p ∧ p ≤ 1000) (hq : 1 ≤ q ∧ q ≤ 1000) :
    PCalls Tryd.prog 18 [latT W f num den, .int .i64 p, .int .i64 q] (match (gearsL W.length).find? (cutsB W num den p q) with
      | some g => .tup [.sl (ints g) g.length true, .int .i64 0]
      | none => .tup [.nilSl, .int .i64 4]) := by
  have hok : latOk W num den = true := by
    unfold latOk
    rw [inB_iff.2 (show (2 : Int) ≤ W.length ∧ (W.length : Int) ≤ 10 by have := hW.1; omega), inB_iff.2 hn, inB_iff.2 hdn, Bool.true_and, Bool.true_and, Bool.true_and, List.all_eq_true]
    exact fun x hx => inB_iff.2 (hW.2 x hx)
  have hC := sCheck_c W f num den hs (by have := hW.1; omega)
  rw [hok, if_pos rfl] at hC
  have hI := gearsI_c W f num den hW.1.2
  have hip : inB p 1 1000 = true := inB_iff.2 hp
  have hiq : inB q 1 1000 = true := inB_iff.2 hq
  have hlo : (0 < p ∧ p ≤ 1000000000000) ∧ 0 < q ∧ q ≤ 1000000000000 := by omega
  obtain ⟨⟨l1, l2⟩, hl⟩ : ∃ l, lowP p q = l := ⟨_, rfl⟩
  have hcb : ∀ g, cutsB W num den p q g = decide (lowP (cutP W num den g).1 (cutP W num den g).2 = (l1, l2)) := fun g => by unfold cutsB; rw [hl]
  refine pcalls_by Tryd.mixes (Spec.one_ok (oneP_ok hC) (Spec.one_ok (gCuts_ok (f := f) hW hn hdn) (Spec.one_ok scLowest_ok (Spec.one_ok scIsPitch_ok noSpec_ok)))) (fn := Tryd.f18) Tryd.func18 rfl (by kernel_rfl) (by show 3 ≤ _; decide) ?_
  simp (decide := true) (maxSteps := 4000000) only [go_sem, Nat.reduceAdd, Nat.reduceSub, Nat.reduceMul, Nat.reduceDiv, Nat.reduceMod, Nat.reduceLT, Nat.reduceLeDiff, Nat.reduceEqDiff, Nat.reduceBEq, Nat.reduceBNe, Nat.reduceGT, Int.reduceAdd, Int.reduceSub, Int.reduceMul, Int.reduceNeg, Int.reduceLT, Int.reduceLE, Int.reduceEq, Int.reduceNe, Int.reduceBEq, Int.reduceBNe, Int.reduceToNat, Int.reduceGT, Int.reduceGE, ↓reduceIte, decide_true, decide_false, eq_self, Nat.mul_one, Nat.zero_mul, Nat.one_mul, Int.le_refl, Nat.le_refl, Int.cast_ofNat_Int, Tryd.f18, latT, hip, hiq, hlo, hl]
  obtain ⟨f1, f2⟩ := find_at (cutsB W num den p q) (gearsL W.length)
  have hxs : ∀ (j : Nat) (v : List TV), ((gearsL W.length).map fun g => [gT g])[j]? = some v → ∃ g, (gearsL W.length)[j]? = some g ∧ v = [gT g] := fun j v hv => by
    rw [List.getElem?_map, Option.map_eq_some_iff] at hv
    obtain ⟨g, hg, rfl⟩ := hv
    exact ⟨g, hg, rfl⟩
  cases hfd : (gearsL W.length).find? (cutsB W num den p q) with
  | none =>
    have f2 := f2 hfd
    refine pwpC_rangeS rfl 66 [.agg [.sl (ints W) W.length f, .int .i64 num, .int .i64 den]] [] ((gearsL W.length).map fun g => [gT g]) [(33, .t (.fn 66 [.agg [.sl (ints W) W.length f, .int .i64 num, .int .i64 den]] [])), (9, .ptr 1 0), (10, .ptr 2 0), (11, .ptr 4 0)]
      (fun _ => [.box [.t (.sl (ints W) W.length f), .t (.int .i64 num), .t (.int .i64 den)], .box [.t (.int .i64 l1), .t (.int .i64 l2)], .box [.t (.sl (ints W) W.length f), .t (.int .i64 num), .t (.int .i64 den)], .mp 123 (fun _ => none), .box [.mapr 3]]) 5 ((gearsL W.length).map fun g => [gT g]).length false .normal ?_ (by rfl) (by rfl) ?_ hI ?_ (Nat.le_refl _) (fun _ => ⟨rfl, rfl⟩) (fun e => by cases e) (fun i => Nat.le_refl _) (fun i v him hx => ?_) ?_
    · simp (decide := true) (maxSteps := 4000000) only [go_sem, Nat.reduceAdd, Nat.reduceSub, Nat.reduceMul, Nat.reduceDiv, Nat.reduceMod, Nat.reduceLT, Nat.reduceLeDiff, Nat.reduceEqDiff, Nat.reduceBEq, Nat.reduceBNe, Nat.reduceGT, Int.reduceAdd, Int.reduceSub, Int.reduceMul, Int.reduceNeg, Int.reduceLT, Int.reduceLE, Int.reduceEq, Int.reduceNe, Int.reduceBEq, Int.reduceBNe, Int.reduceToNat, Int.reduceGT, Int.reduceGE, ↓reduceIte, decide_true, decide_false, eq_self, Nat.mul_one, Nat.zero_mul, Nat.one_mul, Int.le_refl, Nat.le_refl, Int.cast_ofNat_Int]
      first | done | trace_state
    · simp (decide := true) (maxSteps := 4000000) only [go_sem, Nat.reduceAdd, Nat.reduceSub, Nat.reduceMul, Nat.reduceDiv, Nat.reduceMod, Nat.reduceLT, Nat.reduceLeDiff, Nat.reduceEqDiff, Nat.reduceBEq, Nat.reduceBNe, Nat.reduceGT, Int.reduceAdd, Int.reduceSub, Int.reduceMul, Int.reduceNeg, Int.reduceLT, Int.reduceLE, Int.reduceEq, Int.reduceNe, Int.reduceBEq, Int.reduceBNe, Int.reduceToNat, Int.reduceGT, Int.reduceGE, ↓reduceIte, decide_true, decide_false, eq_self, Nat.mul_one, Nat.zero_mul, Nat.one_mul, Int.le_refl, Nat.le_refl, Int.cast_ofNat_Int]
      first | done | trace_state
    · intro v hv
      obtain ⟨g, _, rfl⟩ := List.mem_map.1 hv
      rfl
    · obtain ⟨gg, hg, rfl⟩ := hxs i v hx
      have hgi := gearsL_ok W.length gg (List.mem_of_getElem? hg)
      have hcu := cutP_b hW hn hdn (isG_ok hgi)
      have hde := decG_gT gg
      have hce := hcb gg
      obtain ⟨⟨u1, u2⟩, hu⟩ : ∃ u, cutP W num den gg = u := ⟨_, rfl⟩
      rw [hu] at hcu hce
      simp only at hcu hce
      have hlb : (0 < u1 ∧ u1 ≤ 1000000000000) ∧ 0 < u2 ∧ u2 ≤ 1000000000000 := by omega
      obtain ⟨⟨v1, v2⟩, hv⟩ : ∃ v, lowP u1 u2 = v := ⟨_, rfl⟩
      rw [hv] at hce
      have heq : ((v1 == l1) && (v2 == l2)) = decide ((v1, v2) = (l1, l2)) := by
        rw [Bool.eq_iff_iff]; simp
      rw [f2 i gg hg] at hce
      have heq2 : ((v1 == l1) && (v2 == l2)) = false := heq.trans hce.symm
      simp (decide := true) (maxSteps := 4000000) only [go_sem, Nat.reduceAdd, Nat.reduceSub, Nat.reduceMul, Nat.reduceDiv, Nat.reduceMod, Nat.reduceLT, Nat.reduceLeDiff, Nat.reduceEqDiff, Nat.reduceBEq, Nat.reduceBNe, Nat.reduceGT, Int.reduceAdd, Int.reduceSub, Int.reduceMul, Int.reduceNeg, Int.reduceLT, Int.reduceLE, Int.reduceEq, Int.reduceNe, Int.reduceBEq, Int.reduceBNe, Int.reduceToNat, Int.reduceGT, Int.reduceGE, ↓reduceIte, decide_true, decide_false, eq_self, Nat.mul_one, Nat.zero_mul, Nat.one_mul, Int.le_refl, Nat.le_refl, Int.cast_ofNat_Int, hde, latT, hgi, hu, hlb, hv, heq2]
      first | done | trace_state
    · simp (decide := true) (maxSteps := 4000000) only [go_sem, Nat.reduceAdd, Nat.reduceSub, Nat.reduceMul, Nat.reduceDiv, Nat.reduceMod, Nat.reduceLT, Nat.reduceLeDiff, Nat.reduceEqDiff, Nat.reduceBEq, Nat.reduceBNe, Nat.reduceGT, Int.reduceAdd, Int.reduceSub, Int.reduceMul, Int.reduceNeg, Int.reduceLT, Int.reduceLE, Int.reduceEq, Int.reduceNe, Int.reduceBEq, Int.reduceBNe, Int.reduceToNat, Int.reduceGT, Int.reduceGE, ↓reduceIte, decide_true, decide_false, eq_self, Nat.mul_one, Nat.zero_mul, Nat.one_mul, Int.le_refl, Nat.le_refl, Int.cast_ofNat_Int, key_pitch]
      first | done | trace_state
  | some g0 =>
    obtain ⟨i0, hg0, hc0, hb0⟩ := f1 g0 hfd
    have hil := (List.getElem?_eq_some_iff.1 hg0).1
    have hgi0 := gearsL_ok W.length g0 (List.mem_of_getElem? hg0)
    have hn0 : ¬ g0.length = 0 := by rcases hgi0 with h | h <;> (rw [h.1]; omega)
    have hgt : gT g0 = .sl (ints g0) g0.length false := gT_ne hn0
    have hil0 := ints_len g0
    have htk0 : (ints g0).take g0.length = ints g0 := List.take_of_length_le (by rw [hil0]; exact Nat.le_refl _)
    refine pwpC_rangeS rfl 66 [.agg [.sl (ints W) W.length f, .int .i64 num, .int .i64 den]] [] ((gearsL W.length).map fun g => [gT g]) [(33, .t (.fn 66 [.agg [.sl (ints W) W.length f, .int .i64 num, .int .i64 den]] [])), (9, .ptr 1 0), (10, .ptr 2 0), (11, .ptr 4 0)]
      (fun i => [.box [.t (.sl (ints W) W.length f), .t (.int .i64 num), .t (.int .i64 den)], .box [.t (.int .i64 l1), .t (.int .i64 l2)], .box [.t (.sl (ints W) W.length f), .t (.int .i64 num), .t (.int .i64 den)], .mp 123 (if i = i0 + 1 then updT (fun _ => none) (.agg [.int .i64 l1, .int .i64 l2]) (gT g0) else fun _ => none), .box [.mapr 3]]) 5 (i0 + 1) true (.exit 0) ?_ (by rfl) (by rfl) ?_ hI ?_ (by rw [List.length_map]; omega) (fun e => by cases e) (fun _ => ⟨by omega, rfl⟩) (fun i => Nat.le_refl _) (fun i v him hx => ?_) ?_
    · have z : ((0 : Nat) = i0 + 1) = False := by simp
      simp (decide := true) (maxSteps := 4000000) only [go_sem, Nat.reduceAdd, Nat.reduceSub, Nat.reduceMul, Nat.reduceDiv, Nat.reduceMod, Nat.reduceLT, Nat.reduceLeDiff, Nat.reduceEqDiff, Nat.reduceBEq, Nat.reduceBNe, Nat.reduceGT, Int.reduceAdd, Int.reduceSub, Int.reduceMul, Int.reduceNeg, Int.reduceLT, Int.reduceLE, Int.reduceEq, Int.reduceNe, Int.reduceBEq, Int.reduceBNe, Int.reduceToNat, Int.reduceGT, Int.reduceGE, ↓reduceIte, decide_true, decide_false, eq_self, Nat.mul_one, Nat.zero_mul, Nat.one_mul, Int.le_refl, Nat.le_refl, Int.cast_ofNat_Int, z]
      first | done | trace_state
    · simp (decide := true) (maxSteps := 4000000) only [go_sem, Nat.reduceAdd, Nat.reduceSub, Nat.reduceMul, Nat.reduceDiv, Nat.reduceMod, Nat.reduceLT, Nat.reduceLeDiff, Nat.reduceEqDiff, Nat.reduceBEq, Nat.reduceBNe, Nat.reduceGT, Int.reduceAdd, Int.reduceSub, Int.reduceMul, Int.reduceNeg, Int.reduceLT, Int.reduceLE, Int.reduceEq, Int.reduceNe, Int.reduceBEq, Int.reduceBNe, Int.reduceToNat, Int.reduceGT, Int.reduceGE, ↓reduceIte, decide_true, decide_false, eq_self, Nat.mul_one, Nat.zero_mul, Nat.one_mul, Int.le_refl, Nat.le_refl, Int.cast_ofNat_Int]
      first | done | trace_state
    · intro v hv
      obtain ⟨g, _, rfl⟩ := List.mem_map.1 hv
      rfl
    · obtain ⟨gg, hg, rfl⟩ := hxs i v hx
      have hgi := gearsL_ok W.length gg (List.mem_of_getElem? hg)
      have hcu := cutP_b hW hn hdn (isG_ok hgi)
      have hde := decG_gT gg
      have hce := hcb gg
      obtain ⟨⟨u1, u2⟩, hu⟩ : ∃ u, cutP W num den gg = u := ⟨_, rfl⟩
      rw [hu] at hcu hce
      simp only at hcu hce
      have hlb : (0 < u1 ∧ u1 ≤ 1000000000000) ∧ 0 < u2 ∧ u2 ≤ 1000000000000 := by omega
      obtain ⟨⟨v1, v2⟩, hv⟩ : ∃ v, lowP u1 u2 = v := ⟨_, rfl⟩
      rw [hv] at hce
      have heq : ((v1 == l1) && (v2 == l2)) = decide ((v1, v2) = (l1, l2)) := by
        rw [Bool.eq_iff_iff]; simp
      have z1 : (i = i0 + 1) = False := by simp; omega
      by_cases hi0 : i = i0
      · subst hi0
        rw [hg] at hg0
        cases hg0
        rw [hc0] at hce
        have heq2 : ((v1 == l1) && (v2 == l2)) = true := heq.trans hce.symm
        have hvl : v1 = l1 ∧ v2 = l2 := by simpa using heq2
        obtain ⟨rfl, rfl⟩ := hvl
        simp (decide := true) (maxSteps := 4000000) only [go_sem, Nat.reduceAdd, Nat.reduceSub, Nat.reduceMul, Nat.reduceDiv, Nat.reduceMod, Nat.reduceLT, Nat.reduceLeDiff, Nat.reduceEqDiff, Nat.reduceBEq, Nat.reduceBNe, Nat.reduceGT, Int.reduceAdd, Int.reduceSub, Int.reduceMul, Int.reduceNeg, Int.reduceLT, Int.reduceLE, Int.reduceEq, Int.reduceNe, Int.reduceBEq, Int.reduceBNe, Int.reduceToNat, Int.reduceGT, Int.reduceGE, ↓reduceIte, decide_true, decide_false, eq_self, Nat.mul_one, Nat.zero_mul, Nat.one_mul, Int.le_refl, Nat.le_refl, Int.cast_ofNat_Int, z1, hde, latT, hgi, hu, hlb, hv, heq2, key_pitch]
        first | done | trace_state
      · have z2 : (i + 1 = i0 + 1) = False := by simp; omega
        have z3 : (i = i0) = False := by simp; omega
        rw [hb0 i gg (by omega) hg] at hce
        have heq2 : ((v1 == l1) && (v2 == l2)) = false := heq.trans hce.symm
        simp (decide := true) (maxSteps := 4000000) only [go_sem, Nat.reduceAdd, Nat.reduceSub, Nat.reduceMul, Nat.reduceDiv, Nat.reduceMod, Nat.reduceLT, Nat.reduceLeDiff, Nat.reduceEqDiff, Nat.reduceBEq, Nat.reduceBNe, Nat.reduceGT, Int.reduceAdd, Int.reduceSub, Int.reduceMul, Int.reduceNeg, Int.reduceLT, Int.reduceLE, Int.reduceEq, Int.reduceNe, Int.reduceBEq, Int.reduceBNe, Int.reduceToNat, Int.reduceGT, Int.reduceGE, ↓reduceIte, decide_true, decide_false, eq_self, Nat.mul_one, Nat.zero_mul, Nat.one_mul, Int.le_refl, Nat.le_refl, Int.cast_ofNat_Int, z1, z2, z3, hde, latT, hgi, hu, hlb, hv, heq2]
        first | done | trace_state
    · simp (decide := true) (maxSteps := 4000000) only [go_sem, Nat.reduceAdd, Nat.reduceSub, Nat.reduceMul, Nat.reduceDiv, Nat.reduceMod, Nat.reduceLT, Nat.reduceLeDiff, Nat.reduceEqDiff, Nat.reduceBEq, Nat.reduceBNe, Nat.reduceGT, Int.reduceAdd, Int.reduceSub, Int.reduceMul, Int.reduceNeg, Int.reduceLT, Int.reduceLE, Int.reduceEq, Int.reduceNe, Int.reduceBEq, Int.reduceBNe, Int.reduceToNat, Int.reduceGT, Int.reduceGE, ↓reduceIte, decide_true, decide_false, eq_self, Nat.mul_one, Nat.zero_mul, Nat.one_mul, Int.le_refl, Nat.le_refl, Int.cast_ofNat_Int, key_pitch, updT_same, hgt, htk0, hil0, Nat.mul_one]
      first | done | trace_state
end Go.Proofs.YtlonlnfenbadbaaDoor

/- Part TGs. -/
namespace Go.Proofs.YtlonlnfenbadbaaDoor
namespace Gs
open Go.RowKit Go.Pm Go.Oc Go.Oc.Gl Gl
noncomputable def spW2Q : Pm.Spec := ((noSpec.one 117 glWithin).one 151 glValid).one 152 glHolds
@[go_sem] theorem spW2Q_p (f : FuncId) (xs : List TV) : spW2Q.p f xs = Pm.Spec.p (((noSpec.one 117 glWithin).one 151 glValid).one 152 glHolds) f xs := rfl
@[go_sem] theorem spW2Q_h (f : FuncId) (ps : List PV) (hl : List PO) : spW2Q.h f ps hl = Pm.Spec.h (((noSpec.one 117 glWithin).one 151 glValid).one 152 glHolds) f ps hl := rfl
@[go_sem] theorem spW2Q_y (Y : Pm.YS) (f : FuncId) (ps : List PV) (hl : List PO) : spW2Q.y Y f ps hl = Pm.Spec.y (((noSpec.one 117 glWithin).one 151 glValid).one 152 glHolds) Y f ps hl := rfl
@[go_sem] theorem spW2Q_fz (f : FuncId) : spW2Q.fz f = Pm.Spec.fz (((noSpec.one 117 glWithin).one 151 glValid).one 152 glHolds) f := rfl
@[go_sem] theorem spW2Q_fr (f : FuncId) : spW2Q.fr f = Pm.Spec.fr (((noSpec.one 117 glWithin).one 151 glValid).one 152 glHolds) f := rfl
@[go_sem] theorem spW2Q_yf (f : FuncId) : spW2Q.yf f = Pm.Spec.yf (((noSpec.one 117 glWithin).one 151 glValid).one 152 glHolds) f := rfl
@[go_sem] theorem spW2Q_gd : spW2Q.gd = Pm.Spec.gd (((noSpec.one 117 glWithin).one 151 glValid).one 152 glHolds) := rfl
@[go_sem] theorem spW2Q_mu (t : TypeId) : spW2Q.mu t = Pm.Spec.mu (((noSpec.one 117 glWithin).one 151 glValid).one 152 glHolds) t := rfl
@[go_sem] theorem spW2Q_nf (t : TypeId) : spW2Q.nf t = Pm.Spec.nf (((noSpec.one 117 glWithin).one 151 glValid).one 152 glHolds) t := rfl
theorem spW2_okQ : SpecOk Tryd.prog spW2Q := Spec.one_ok glHolds_ok (Spec.one_ok glValid_ok (Spec.one_ok glWithin_ok noSpec_ok))
set_option maxRecDepth 100000
set_option linter.unusedVariables false
set_option maxHeartbeats 4000000

theorem gFrValid_cQ (f : Fr) : PCalls Tryd.prog 118 [.agg f.cs] (.bool (frOk f)) := by
  refine pcalls_by Tryd.mixes spW2_okQ (fn := Tryd.f118) Tryd.func118 rfl (by kernel_rfl) (by show 1 ≤ _; decide) ?_
  simp (decide := true) (maxSteps := 4000000) only [go_sem, Nat.reduceAdd, Nat.reduceSub, Nat.reduceMul, Nat.reduceDiv, Nat.reduceMod, Nat.reduceLT, Nat.reduceLeDiff, Nat.reduceEqDiff, Nat.reduceBEq, Nat.reduceBNe, Nat.reduceGT, Int.reduceAdd, Int.reduceSub, Int.reduceMul, Int.reduceNeg, Int.reduceLT, Int.reduceLE, Int.reduceEq, Int.reduceNe, Int.reduceBEq, Int.reduceBNe, Int.reduceToNat, Int.reduceGT, Int.reduceGE, ↓reduceIte, decide_true, decide_false, eq_self, Nat.mul_one, Nat.zero_mul, Nat.one_mul, Int.le_refl, Nat.le_refl, Int.cast_ofNat_Int, Tryd.f118, Fr.cs, frOk]
theorem gFrAgrees_cQ (f : Fr) (c : Int) (h : frOk f = true) : PCalls Tryd.prog 119 [.agg f.cs, .int .i64 c] (.bool (agB f c)) := by
  have h' := frOk_iff.1 h
  have w1 : IntKind.i64.wrap (f.p.lo + f.r.lo) = f.p.lo + f.r.lo := wrap_in (by omega) (by omega)
  have w2 : IntKind.i64.wrap (f.p.hi + f.r.hi) = f.p.hi + f.r.hi := wrap_in (by omega) (by omega)
  have w3 : IntKind.i64.wrap (f.p.lo - f.r.hi) = f.p.lo - f.r.hi := wrap_in (by omega) (by omega)
  have w4 : IntKind.i64.wrap (f.p.hi - f.r.lo) = f.p.hi - f.r.lo := wrap_in (by omega) (by omega)
  refine pcalls_by Tryd.mixes spW2_okQ (fn := Tryd.f119) Tryd.func119 rfl (by kernel_rfl) (by show 2 ≤ _; decide) ?_
  unfold agB
  by_cases c1 : f.g ≥ 0 <;> by_cases c2 : f.g ≤ 0 <;> cases c3 : inB c (f.p.lo + f.r.lo) (f.p.hi + f.r.hi) <;> cases c4 : inB c (f.p.lo - f.r.hi) (f.p.hi - f.r.lo) <;> simp (decide := true) (maxSteps := 4000000) only [go_sem, Nat.reduceAdd, Nat.reduceSub, Nat.reduceMul, Nat.reduceDiv, Nat.reduceMod, Nat.reduceLT, Nat.reduceLeDiff, Nat.reduceEqDiff, Nat.reduceBEq, Nat.reduceBNe, Nat.reduceGT, Int.reduceAdd, Int.reduceSub, Int.reduceMul, Int.reduceNeg, Int.reduceLT, Int.reduceLE, Int.reduceEq, Int.reduceNe, Int.reduceBEq, Int.reduceBNe, Int.reduceToNat, Int.reduceGT, Int.reduceGE, ↓reduceIte, decide_true, decide_false, eq_self, Nat.mul_one, Nat.zero_mul, Nat.one_mul, Int.le_refl, Nat.le_refl, Int.cast_ofNat_Int, Tryd.f119, Fr.cs, w1, w2, w3, w4, c1, c2, c3, c4, Bool.and_self, Bool.or_self, Bool.false_and, Bool.and_false, Bool.or_false, Bool.or_true, Bool.true_and, Bool.and_true]
noncomputable def glFrValidQ : List TV → Option TV
  | [.agg [.int .i64 a, .int .i64 b, .int .i64 c, .int .i64 d, .int .i64 e]] => some (.bool (frOk ⟨⟨a, b⟩, ⟨c, d⟩, e⟩))
  | _ => none
theorem glFrValidQ_ok : ∀ xs r, glFrValidQ xs = some r → PCalls Tryd.prog 118 xs r := by
  intro xs r h
  unfold glFrValidQ at h
  split at h
  · cases h; exact gFrValid_cQ ⟨⟨_, _⟩, ⟨_, _⟩, _⟩
  · cases h
attribute [go_sem] glFrValidQ
noncomputable def glFrAgreesQ : List TV → Option TV
  | [.agg [.int .i64 a, .int .i64 b, .int .i64 c, .int .i64 d, .int .i64 e], .int .i64 n] => if frOk ⟨⟨a, b⟩, ⟨c, d⟩, e⟩ = true then some (.bool (agB ⟨⟨a, b⟩, ⟨c, d⟩, e⟩ n)) else none
  | _ => none
theorem glFrAgreesQ_ok : ∀ xs r, glFrAgreesQ xs = some r → PCalls Tryd.prog 119 xs r := by
  intro xs r h
  unfold glFrAgreesQ at h
  split at h
  · split at h
    · rename_i hc; cases h; exact gFrAgrees_cQ ⟨⟨_, _⟩, ⟨_, _⟩, _⟩ _ hc
    · cases h
  · cases h
attribute [go_sem] glFrAgreesQ
noncomputable def spF1Q : Pm.Spec := (spW2Q.one 118 glFrValidQ).one 119 glFrAgreesQ
@[go_sem] theorem spF1Q_p (f : FuncId) (xs : List TV) : spF1Q.p f xs = Pm.Spec.p ((spW2Q.one 118 glFrValidQ).one 119 glFrAgreesQ) f xs := rfl
@[go_sem] theorem spF1Q_h (f : FuncId) (ps : List PV) (hl : List PO) : spF1Q.h f ps hl = Pm.Spec.h ((spW2Q.one 118 glFrValidQ).one 119 glFrAgreesQ) f ps hl := rfl
@[go_sem] theorem spF1Q_y (Y : Pm.YS) (f : FuncId) (ps : List PV) (hl : List PO) : spF1Q.y Y f ps hl = Pm.Spec.y ((spW2Q.one 118 glFrValidQ).one 119 glFrAgreesQ) Y f ps hl := rfl
@[go_sem] theorem spF1Q_fz (f : FuncId) : spF1Q.fz f = Pm.Spec.fz ((spW2Q.one 118 glFrValidQ).one 119 glFrAgreesQ) f := rfl
@[go_sem] theorem spF1Q_fr (f : FuncId) : spF1Q.fr f = Pm.Spec.fr ((spW2Q.one 118 glFrValidQ).one 119 glFrAgreesQ) f := rfl
@[go_sem] theorem spF1Q_yf (f : FuncId) : spF1Q.yf f = Pm.Spec.yf ((spW2Q.one 118 glFrValidQ).one 119 glFrAgreesQ) f := rfl
@[go_sem] theorem spF1Q_gd : spF1Q.gd = Pm.Spec.gd ((spW2Q.one 118 glFrValidQ).one 119 glFrAgreesQ) := rfl
@[go_sem] theorem spF1Q_mu (t : TypeId) : spF1Q.mu t = Pm.Spec.mu ((spW2Q.one 118 glFrValidQ).one 119 glFrAgreesQ) t := rfl
@[go_sem] theorem spF1Q_nf (t : TypeId) : spF1Q.nf t = Pm.Spec.nf ((spW2Q.one 118 glFrValidQ).one 119 glFrAgreesQ) t := rfl
theorem spF1_okQ : SpecOk Tryd.prog spF1Q := Spec.one_ok glFrAgreesQ_ok (Spec.one_ok glFrValidQ_ok spW2_okQ)
noncomputable def spF2Q : Pm.Spec := { spF1Q with mu := fun t => t == 128 }
theorem spF2_okQ : SpecOk Tryd.prog spF2Q := ⟨spF1_okQ.1, spF1_okQ.2⟩
@[go_sem] theorem spF2_pQ (f : FuncId) (xs : List TV) : spF2Q.p f xs = spF1Q.p f xs := rfl
@[go_sem] theorem spF2_hQ (f : FuncId) (ps : List PV) (hl : List PO) : spF2Q.h f ps hl = spF1Q.h f ps hl := rfl
@[go_sem] theorem spF2_gdQ : spF2Q.gd = spF1Q.gd := rfl
@[go_sem] theorem spF2_nfQ (t : TypeId) : spF2Q.nf t = spF1Q.nf t := rfl
@[go_sem] theorem spF2_yfQ (f : FuncId) : spF2Q.yf f = spF1Q.yf f := rfl
@[go_sem] theorem spF2_fzQ (f : FuncId) : spF2Q.fz f = spF1Q.fz f := rfl
@[go_sem] theorem spF2_frQ (f : FuncId) : spF2Q.fr f = spF1Q.fr f := rfl
@[go_sem] theorem spF2_muQ (t : TypeId) : spF2Q.mu t = (t == 128) := rfl
attribute [go_sem] popM
set_option maxRecDepth 100000
set_option linter.unusedVariables false
set_option maxHeartbeats 4000000

def outVQ (out : List Span) : PV := if out.length = 0 then .t .nilSl else .gsl 1 (out.length - 1) 2 0 out.length false
def outHQ (out : List Span) : Wr := if out.length = 0 then [] else [(0, .grow 0 [.junk, .junk] 41 2), (1, .grow (out.length - 1) ((out.flatMap Span.cs).map .t) 41 2)]
theorem cellsW_ttQ (l : List PO) : ∀ cs : List TV, cellsW l (cs.map .t) (cs.map .t)
  | [] => trivial
  | c :: cs => ⟨by simp [cellW, PV.toT], cellsW_ttQ l cs⟩
theorem thawC_ttQ (h : Hp) : ∀ cs : List TV, allO ((cs.map PV.t).map (thawC h)) = some cs
  | [] => rfl
  | c :: cs => by simp only [List.map_cons, allO, thawC, PV.toT, thawC_ttQ h cs, Option.map_some]
theorem idsG_ttQ : ∀ cs : List TV, (cs.map PV.t).flatMap idsG = []
  | [] => rfl
  | c :: cs => by simp only [List.map_cons, List.flatMap_cons, idsG_ttQ cs]; rfl
/-- The cells of a row, the last one told. -/
theorem surf_cellsQ (i : List Span) (y : Span) (c : Int) {m : Nat} (hm : i.length = m) :
    (((i.flatMap Span.cs).map PV.t ++ [PV.t (.int .i64 y.lo), PV.t (.int .i64 y.hi)]) : List PV)[m * 2 + 1]? = some (.t (.int .i64 y.hi)) ∧
    ((((i.flatMap Span.cs).map PV.t ++ [PV.t (.int .i64 y.lo), PV.t (.int .i64 y.hi)]) : List PV).take (m * 2 + 1) ++ [PV.t (.int .i64 c)] ++ (((i.flatMap Span.cs).map PV.t ++ [PV.t (.int .i64 y.lo), PV.t (.int .i64 y.hi)]) : List PV).drop (m * 2 + 1 + 1)) = ((i.flatMap Span.cs).map PV.t ++ [PV.t (.int .i64 y.lo), PV.t (.int .i64 c)]) ∧
    (((i.flatMap Span.cs).map PV.t ++ [PV.t (.int .i64 y.lo), PV.t (.int .i64 y.hi)]) : List PV).length = (m + 1) * 2 := by
  have hl : ((i.flatMap Span.cs).map PV.t).length = m * 2 := by rw [List.length_map, flat_len Span.cs (n := 2) (fun _ => rfl), hm]
  refine ⟨?_, ?_, ?_⟩
  · rw [List.getElem?_append_right (by omega), hl]; simp
  · rw [List.take_append, List.drop_append, hl, List.take_of_length_le (by omega), List.drop_eq_nil_of_le (by omega)]
    simp
    try omega
  · rw [List.length_append, hl]; simp; omega
theorem gSurface_cQ {l : List Fr} {s : TV} (hs : IsRow Fr.cs s l) (hl : l.length ≤ 5864062014806) : PCalls Tryd.prog 69 [s] (.tup [if (surfP l).1.length = 0 then .nilSl else .sl ((surfP l).1.flatMap Span.cs) (surfP l).1.length true, .int .i64 (surfP l).2]) := by
  refine pcalls_by Tryd.mixes spF2_okQ (fn := Tryd.f69) Tryd.func69 rfl (by kernel_rfl) (by show 1 ≤ _; decide) ?_
  unfold surfP
  cases hlen : inB l.length 1 12 with
  | false =>
    have hno : frsOk l = false := by unfold frsOk; rw [hlen]; rfl
    rcases hs with ⟨rfl, rfl⟩ | ⟨full, rfl⟩
    · simp (decide := true) (maxSteps := 4000000) only [go_sem, Nat.reduceAdd, Nat.reduceSub, Nat.reduceMul, Nat.reduceDiv, Nat.reduceMod, Nat.reduceLT, Nat.reduceLeDiff, Nat.reduceEqDiff, Nat.reduceBEq, Nat.reduceBNe, Nat.reduceGT, Int.reduceAdd, Int.reduceSub, Int.reduceMul, Int.reduceNeg, Int.reduceLT, Int.reduceLE, Int.reduceEq, Int.reduceNe, Int.reduceBEq, Int.reduceBNe, Int.reduceToNat, Int.reduceGT, Int.reduceGE, ↓reduceIte, decide_true, decide_false, eq_self, Nat.mul_one, Nat.zero_mul, Nat.one_mul, Int.le_refl, Nat.le_refl, Int.cast_ofNat_Int, Tryd.f69, hno, List.length_nil, show inB 0 1 12 = false from rfl]
    · simp (decide := true) (maxSteps := 4000000) only [go_sem, Nat.reduceAdd, Nat.reduceSub, Nat.reduceMul, Nat.reduceDiv, Nat.reduceMod, Nat.reduceLT, Nat.reduceLeDiff, Nat.reduceEqDiff, Nat.reduceBEq, Nat.reduceBNe, Nat.reduceGT, Int.reduceAdd, Int.reduceSub, Int.reduceMul, Int.reduceNeg, Int.reduceLT, Int.reduceLE, Int.reduceEq, Int.reduceNe, Int.reduceBEq, Int.reduceBNe, Int.reduceToNat, Int.reduceGT, Int.reduceGE, ↓reduceIte, decide_true, decide_false, eq_self, Nat.mul_one, Nat.zero_mul, Nat.one_mul, Int.le_refl, Nat.le_refl, Int.cast_ofNat_Int, Tryd.f69, hno, hlen, List.length_nil]
  | true =>
    have hlen' := inB_iff.1 hlen
    obtain ⟨full, rfl⟩ := hs.ne (by omega)
    simp (decide := true) (maxSteps := 4000000) only [go_sem, Nat.reduceAdd, Nat.reduceSub, Nat.reduceMul, Nat.reduceDiv, Nat.reduceMod, Nat.reduceLT, Nat.reduceLeDiff, Nat.reduceEqDiff, Nat.reduceBEq, Nat.reduceBNe, Nat.reduceGT, Int.reduceAdd, Int.reduceSub, Int.reduceMul, Int.reduceNeg, Int.reduceLT, Int.reduceLE, Int.reduceEq, Int.reduceNe, Int.reduceBEq, Int.reduceBNe, Int.reduceToNat, Int.reduceGT, Int.reduceGE, ↓reduceIte, decide_true, decide_false, eq_self, Nat.mul_one, Nat.zero_mul, Nat.one_mul, Int.le_refl, Nat.le_refl, Int.cast_ofNat_Int, Tryd.f69, hlen]
    refine pwpC_loopU (A := { k : Nat // k ≤ l.length ∧ (l.take k).all frOk = true }) [0, 15, 16] (fun k => [(17, .t (.int .i64 k.1))]) (fun _ => []) (fun k => l.length - k.1) ⟨0, by omega, rfl⟩ (by decide) (fun _ => by rfl) ?_ fun Q1 hQ1 ⟨k, hk, hka⟩ I1 hI1 => ?_
    · simp (decide := true) (maxSteps := 4000000) only [go_sem, Nat.reduceAdd, Nat.reduceSub, Nat.reduceMul, Nat.reduceDiv, Nat.reduceMod, Nat.reduceLT, Nat.reduceLeDiff, Nat.reduceEqDiff, Nat.reduceBEq, Nat.reduceBNe, Nat.reduceGT, Int.reduceAdd, Int.reduceSub, Int.reduceMul, Int.reduceNeg, Int.reduceLT, Int.reduceLE, Int.reduceEq, Int.reduceNe, Int.reduceBEq, Int.reduceBNe, Int.reduceToNat, Int.reduceGT, Int.reduceGE, ↓reduceIte, decide_true, decide_false, eq_self, Nat.mul_one, Nat.zero_mul, Nat.one_mul, Int.le_refl, Nat.le_refl, Int.cast_ofNat_Int]
    · by_cases hlt : (k : Int) < l.length
      · obtain ⟨x, hx⟩ := get_lt hlt
        have hd := flat_at Fr.cs (n := 5) (fun _ => rfl) hx
        have hc1 : IntKind.i64.wrap (k + 1) = ((k + 1 : Nat) : Int) := by rw [wrap_in (by omega) (by omega)]; omega
        have ht := take_all frOk hx
        rw [hka, Bool.true_and] at ht
        rcases (Bool.eq_false_or_eq_true (frOk x)).symm with hok | hok
        · have hno : frsOk l = false := by
            unfold frsOk
            rw [all_of_take (k := k + 1) (by rw [ht]; exact hok), Bool.and_false]
          simp (decide := true) (maxSteps := 4000000) only [go_sem, Nat.reduceAdd, Nat.reduceSub, Nat.reduceMul, Nat.reduceDiv, Nat.reduceMod, Nat.reduceLT, Nat.reduceLeDiff, Nat.reduceEqDiff, Nat.reduceBEq, Nat.reduceBNe, Nat.reduceGT, Int.reduceAdd, Int.reduceSub, Int.reduceMul, Int.reduceNeg, Int.reduceLT, Int.reduceLE, Int.reduceEq, Int.reduceNe, Int.reduceBEq, Int.reduceBNe, Int.reduceToNat, Int.reduceGT, Int.reduceGE, ↓reduceIte, decide_true, decide_false, eq_self, Nat.mul_one, Nat.zero_mul, Nat.one_mul, Int.le_refl, Nat.le_refl, Int.cast_ofNat_Int, hlt, hd, Fr.cs, hok]
          refine hQ1 _ _ ?_
          simp (decide := true) (maxSteps := 4000000) only [go_sem, Nat.reduceAdd, Nat.reduceSub, Nat.reduceMul, Nat.reduceDiv, Nat.reduceMod, Nat.reduceLT, Nat.reduceLeDiff, Nat.reduceEqDiff, Nat.reduceBEq, Nat.reduceBNe, Nat.reduceGT, Int.reduceAdd, Int.reduceSub, Int.reduceMul, Int.reduceNeg, Int.reduceLT, Int.reduceLE, Int.reduceEq, Int.reduceNe, Int.reduceBEq, Int.reduceBNe, Int.reduceToNat, Int.reduceGT, Int.reduceGE, ↓reduceIte, decide_true, decide_false, eq_self, Nat.mul_one, Nat.zero_mul, Nat.one_mul, Int.le_refl, Nat.le_refl, Int.cast_ofNat_Int, hno, List.length_nil]
        · simp (decide := true) (maxSteps := 4000000) only [go_sem, Nat.reduceAdd, Nat.reduceSub, Nat.reduceMul, Nat.reduceDiv, Nat.reduceMod, Nat.reduceLT, Nat.reduceLeDiff, Nat.reduceEqDiff, Nat.reduceBEq, Nat.reduceBNe, Nat.reduceGT, Int.reduceAdd, Int.reduceSub, Int.reduceMul, Int.reduceNeg, Int.reduceLT, Int.reduceLE, Int.reduceEq, Int.reduceNe, Int.reduceBEq, Int.reduceBNe, Int.reduceToNat, Int.reduceGT, Int.reduceGE, ↓reduceIte, decide_true, decide_false, eq_self, Nat.mul_one, Nat.zero_mul, Nat.one_mul, Int.le_refl, Nat.le_refl, Int.cast_ofNat_Int, hlt, hd, Fr.cs, hok]
          refine hI1 _ ⟨k + 1, by omega, by rw [ht]; exact hok⟩ (by simp only; omega) ?_
          simp (decide := true) (maxSteps := 4000000) only [go_sem, Nat.reduceAdd, Nat.reduceSub, Nat.reduceMul, Nat.reduceDiv, Nat.reduceMod, Nat.reduceLT, Nat.reduceLeDiff, Nat.reduceEqDiff, Nat.reduceBEq, Nat.reduceBNe, Nat.reduceGT, Int.reduceAdd, Int.reduceSub, Int.reduceMul, Int.reduceNeg, Int.reduceLT, Int.reduceLE, Int.reduceEq, Int.reduceNe, Int.reduceBEq, Int.reduceBNe, Int.reduceToNat, Int.reduceGT, Int.reduceGE, ↓reduceIte, decide_true, decide_false, eq_self, Nat.mul_one, Nat.zero_mul, Nat.one_mul, Int.le_refl, Nat.le_refl, Int.cast_ofNat_Int, hc1]
      · have hke : k = l.length := by omega
        subst hke
        rw [List.take_length] at hka
        have hok : frsOk l = true := by unfold frsOk; rw [hlen, hka]; rfl
        have hmem := (frsOk_at hok).2
        simp (decide := true) (maxSteps := 4000000) only [go_sem, Nat.reduceAdd, Nat.reduceSub, Nat.reduceMul, Nat.reduceDiv, Nat.reduceMod, Nat.reduceLT, Nat.reduceLeDiff, Nat.reduceEqDiff, Nat.reduceBEq, Nat.reduceBNe, Nat.reduceGT, Int.reduceAdd, Int.reduceSub, Int.reduceMul, Int.reduceNeg, Int.reduceLT, Int.reduceLE, Int.reduceEq, Int.reduceNe, Int.reduceBEq, Int.reduceBNe, Int.reduceToNat, Int.reduceGT, Int.reduceGE, ↓reduceIte, decide_true, decide_false, eq_self, Nat.mul_one, Nat.zero_mul, Nat.one_mul, Int.le_refl, Nat.le_refl, Int.cast_ofNat_Int, hlt]
        refine hQ1 _ _ ?_
        simp (decide := true) (maxSteps := 4000000) only [go_sem, Nat.reduceAdd, Nat.reduceSub, Nat.reduceMul, Nat.reduceDiv, Nat.reduceMod, Nat.reduceLT, Nat.reduceLeDiff, Nat.reduceEqDiff, Nat.reduceBEq, Nat.reduceBNe, Nat.reduceGT, Int.reduceAdd, Int.reduceSub, Int.reduceMul, Int.reduceNeg, Int.reduceLT, Int.reduceLE, Int.reduceEq, Int.reduceNe, Int.reduceBEq, Int.reduceBNe, Int.reduceToNat, Int.reduceGT, Int.reduceGE, ↓reduceIte, decide_true, decide_false, eq_self, Nat.mul_one, Nat.zero_mul, Nat.one_mul, Int.le_refl, Nat.le_refl, Int.cast_ofNat_Int, hok]
        refine pwpC_loopU (A := { k : Nat // k ≤ 4001 }) [0] (fun k => [(7, .t (.int .i64 ((k.1 : Int) - 2000))), (6, outVQ (surfTo l k.1))]) (fun k => outHQ (surfTo l k.1)) (fun k => 4001 - k.1) ⟨0, by omega⟩ (by decide) (fun _ => by rfl) ?_ fun Q2 hQ2 ⟨c, hc⟩ I2 hI2 => ?_
        · have v0 : outVQ (surfTo l 0) = .t .nilSl := rfl
          have o0 : outHQ (surfTo l 0) = [] := rfl
          simp (decide := true) (maxSteps := 4000000) only [go_sem, Nat.reduceAdd, Nat.reduceSub, Nat.reduceMul, Nat.reduceDiv, Nat.reduceMod, Nat.reduceLT, Nat.reduceLeDiff, Nat.reduceEqDiff, Nat.reduceBEq, Nat.reduceBNe, Nat.reduceGT, Int.reduceAdd, Int.reduceSub, Int.reduceMul, Int.reduceNeg, Int.reduceLT, Int.reduceLE, Int.reduceEq, Int.reduceNe, Int.reduceBEq, Int.reduceBNe, Int.reduceToNat, Int.reduceGT, Int.reduceGE, ↓reduceIte, decide_true, decide_false, eq_self, Nat.mul_one, Nat.zero_mul, Nat.one_mul, Int.le_refl, Nat.le_refl, Int.cast_ofNat_Int, v0, o0]
        · by_cases hlt : (c : Int) - 2000 ≤ 2000
          · have hcc : IntKind.i64.wrap ((c : Int) - 2000 + 1) = ((c + 1 : Nat) : Int) - 2000 := by rw [wrap_in (by omega) (by omega)]; omega
            have hsu := surfTo_succ l c
            unfold surfStep at hsu
            rcases snoc_cases (surfTo l c) with hn | ⟨i, y, hn⟩
            · have v0 : outVQ (surfTo l c) = .t .nilSl := by rw [hn]; rfl
              have o0 : outHQ (surfTo l c) = [] := by rw [hn]; rfl
              simp (decide := true) (maxSteps := 4000000) only [go_sem, Nat.reduceAdd, Nat.reduceSub, Nat.reduceMul, Nat.reduceDiv, Nat.reduceMod, Nat.reduceLT, Nat.reduceLeDiff, Nat.reduceEqDiff, Nat.reduceBEq, Nat.reduceBNe, Nat.reduceGT, Int.reduceAdd, Int.reduceSub, Int.reduceMul, Int.reduceNeg, Int.reduceLT, Int.reduceLE, Int.reduceEq, Int.reduceNe, Int.reduceBEq, Int.reduceBNe, Int.reduceToNat, Int.reduceGT, Int.reduceGE, ↓reduceIte, decide_true, decide_false, eq_self, Nat.mul_one, Nat.zero_mul, Nat.one_mul, Int.le_refl, Nat.le_refl, Int.cast_ofNat_Int, hlt, v0, o0]
              refine pwpC_loopU (A := { k : Nat // k ≤ l.length ∧ (l.take k).all (fun f => agB f ((c : Int) - 2000)) = true }) [0, 6, 7, 30, 31] (fun k => [(32, .t (.int .i64 k.1))]) (fun _ => []) (fun k => l.length - k.1) ⟨0, by omega, rfl⟩ (by decide) (fun _ => by rfl) ?_ fun Q3 hQ3 ⟨k, hk, hka2⟩ I3 hI3 => ?_
              · simp (decide := true) (maxSteps := 4000000) only [go_sem, Nat.reduceAdd, Nat.reduceSub, Nat.reduceMul, Nat.reduceDiv, Nat.reduceMod, Nat.reduceLT, Nat.reduceLeDiff, Nat.reduceEqDiff, Nat.reduceBEq, Nat.reduceBNe, Nat.reduceGT, Int.reduceAdd, Int.reduceSub, Int.reduceMul, Int.reduceNeg, Int.reduceLT, Int.reduceLE, Int.reduceEq, Int.reduceNe, Int.reduceBEq, Int.reduceBNe, Int.reduceToNat, Int.reduceGT, Int.reduceGE, ↓reduceIte, decide_true, decide_false, eq_self, Nat.mul_one, Nat.zero_mul, Nat.one_mul, Int.le_refl, Nat.le_refl, Int.cast_ofNat_Int, v0, o0]
              · by_cases hlt3 : (k : Int) < l.length
                · obtain ⟨x, hx⟩ := get_lt hlt3
                  have hd := flat_at Fr.cs (n := 5) (fun _ => rfl) hx
                  have hc1 : IntKind.i64.wrap (k + 1) = ((k + 1 : Nat) : Int) := by rw [wrap_in (by omega) (by omega)]; omega
                  have hok := hmem x (List.mem_of_getElem? hx)
                  have ht := take_all (fun f => agB f ((c : Int) - 2000)) hx
                  rw [hka2, Bool.true_and] at ht
                  rcases (Bool.eq_false_or_eq_true (agB x ((c : Int) - 2000))).symm with hag | hag
                  · have hfa : frAll l ((c : Int) - 2000) = false := all_of_take (k := k + 1) (by rw [ht]; exact hag)
                    rw [hfa] at hsu
                    simp only [Bool.false_eq_true, if_false] at hsu
                    simp (decide := true) (maxSteps := 4000000) only [go_sem, Nat.reduceAdd, Nat.reduceSub, Nat.reduceMul, Nat.reduceDiv, Nat.reduceMod, Nat.reduceLT, Nat.reduceLeDiff, Nat.reduceEqDiff, Nat.reduceBEq, Nat.reduceBNe, Nat.reduceGT, Int.reduceAdd, Int.reduceSub, Int.reduceMul, Int.reduceNeg, Int.reduceLT, Int.reduceLE, Int.reduceEq, Int.reduceNe, Int.reduceBEq, Int.reduceBNe, Int.reduceToNat, Int.reduceGT, Int.reduceGE, ↓reduceIte, decide_true, decide_false, eq_self, Nat.mul_one, Nat.zero_mul, Nat.one_mul, Int.le_refl, Nat.le_refl, Int.cast_ofNat_Int, hlt3, hd, Fr.cs, hok, hag, v0, o0]
                    refine hQ3 _ _ ?_
                    simp (decide := true) (maxSteps := 4000000) only [go_sem, Nat.reduceAdd, Nat.reduceSub, Nat.reduceMul, Nat.reduceDiv, Nat.reduceMod, Nat.reduceLT, Nat.reduceLeDiff, Nat.reduceEqDiff, Nat.reduceBEq, Nat.reduceBNe, Nat.reduceGT, Int.reduceAdd, Int.reduceSub, Int.reduceMul, Int.reduceNeg, Int.reduceLT, Int.reduceLE, Int.reduceEq, Int.reduceNe, Int.reduceBEq, Int.reduceBNe, Int.reduceToNat, Int.reduceGT, Int.reduceGE, ↓reduceIte, decide_true, decide_false, eq_self, Nat.mul_one, Nat.zero_mul, Nat.one_mul, Int.le_refl, Nat.le_refl, Int.cast_ofNat_Int]
                    refine hI2 _ ⟨c + 1, by omega⟩ (by simp only; omega) ?_
                    simp (decide := true) (maxSteps := 4000000) only [go_sem, Nat.reduceAdd, Nat.reduceSub, Nat.reduceMul, Nat.reduceDiv, Nat.reduceMod, Nat.reduceLT, Nat.reduceLeDiff, Nat.reduceEqDiff, Nat.reduceBEq, Nat.reduceBNe, Nat.reduceGT, Int.reduceAdd, Int.reduceSub, Int.reduceMul, Int.reduceNeg, Int.reduceLT, Int.reduceLE, Int.reduceEq, Int.reduceNe, Int.reduceBEq, Int.reduceBNe, Int.reduceToNat, Int.reduceGT, Int.reduceGE, ↓reduceIte, decide_true, decide_false, eq_self, Nat.mul_one, Nat.zero_mul, Nat.one_mul, Int.le_refl, Nat.le_refl, Int.cast_ofNat_Int, hcc, hsu, v0, o0]
                  · simp (decide := true) (maxSteps := 4000000) only [go_sem, Nat.reduceAdd, Nat.reduceSub, Nat.reduceMul, Nat.reduceDiv, Nat.reduceMod, Nat.reduceLT, Nat.reduceLeDiff, Nat.reduceEqDiff, Nat.reduceBEq, Nat.reduceBNe, Nat.reduceGT, Int.reduceAdd, Int.reduceSub, Int.reduceMul, Int.reduceNeg, Int.reduceLT, Int.reduceLE, Int.reduceEq, Int.reduceNe, Int.reduceBEq, Int.reduceBNe, Int.reduceToNat, Int.reduceGT, Int.reduceGE, ↓reduceIte, decide_true, decide_false, eq_self, Nat.mul_one, Nat.zero_mul, Nat.one_mul, Int.le_refl, Nat.le_refl, Int.cast_ofNat_Int, hlt3, hd, Fr.cs, hok, hag, v0, o0]
                    refine hI3 _ ⟨k + 1, by omega, by rw [ht]; exact hag⟩ (by simp only; omega) ?_
                    simp (decide := true) (maxSteps := 4000000) only [go_sem, Nat.reduceAdd, Nat.reduceSub, Nat.reduceMul, Nat.reduceDiv, Nat.reduceMod, Nat.reduceLT, Nat.reduceLeDiff, Nat.reduceEqDiff, Nat.reduceBEq, Nat.reduceBNe, Nat.reduceGT, Int.reduceAdd, Int.reduceSub, Int.reduceMul, Int.reduceNeg, Int.reduceLT, Int.reduceLE, Int.reduceEq, Int.reduceNe, Int.reduceBEq, Int.reduceBNe, Int.reduceToNat, Int.reduceGT, Int.reduceGE, ↓reduceIte, decide_true, decide_false, eq_self, Nat.mul_one, Nat.zero_mul, Nat.one_mul, Int.le_refl, Nat.le_refl, Int.cast_ofNat_Int, hc1, v0, o0]
                · have hke : k = l.length := by omega
                  subst hke
                  rw [List.take_length] at hka2
                  have hfa : frAll l ((c : Int) - 2000) = true := hka2
                  rw [hfa] at hsu
                  simp only [if_true] at hsu
                  simp (decide := true) (maxSteps := 4000000) only [go_sem, Nat.reduceAdd, Nat.reduceSub, Nat.reduceMul, Nat.reduceDiv, Nat.reduceMod, Nat.reduceLT, Nat.reduceLeDiff, Nat.reduceEqDiff, Nat.reduceBEq, Nat.reduceBNe, Nat.reduceGT, Int.reduceAdd, Int.reduceSub, Int.reduceMul, Int.reduceNeg, Int.reduceLT, Int.reduceLE, Int.reduceEq, Int.reduceNe, Int.reduceBEq, Int.reduceBNe, Int.reduceToNat, Int.reduceGT, Int.reduceGE, ↓reduceIte, decide_true, decide_false, eq_self, Nat.mul_one, Nat.zero_mul, Nat.one_mul, Int.le_refl, Nat.le_refl, Int.cast_ofNat_Int, hlt3, v0, o0]
                  refine hQ3 _ _ ?_
                  rw [hn] at hsu
                  simp only [List.getLast?_nil] at hsu
                  have v1 : outVQ (surfTo l (c + 1)) = .gsl 1 0 2 0 1 false := by rw [hsu]; rfl
                  have o1 : outHQ (surfTo l (c + 1)) = [(0, .grow 0 [.junk, .junk] 41 2), (1, .grow 0 [.t (.int .i64 ((c : Int) - 2000)), .t (.int .i64 ((c : Int) - 2000))] 41 2)] := by rw [hsu]; rfl
                  simp (decide := true) (maxSteps := 4000000) only [go_sem, Nat.reduceAdd, Nat.reduceSub, Nat.reduceMul, Nat.reduceDiv, Nat.reduceMod, Nat.reduceLT, Nat.reduceLeDiff, Nat.reduceEqDiff, Nat.reduceBEq, Nat.reduceBNe, Nat.reduceGT, Int.reduceAdd, Int.reduceSub, Int.reduceMul, Int.reduceNeg, Int.reduceLT, Int.reduceLE, Int.reduceEq, Int.reduceNe, Int.reduceBEq, Int.reduceBNe, Int.reduceToNat, Int.reduceGT, Int.reduceGE, ↓reduceIte, decide_true, decide_false, eq_self, Nat.mul_one, Nat.zero_mul, Nat.one_mul, Int.le_refl, Nat.le_refl, Int.cast_ofNat_Int, v0, o0]
                  refine hI2 _ ⟨c + 1, by omega⟩ (by simp only; omega) ?_
                  simp (decide := true) (maxSteps := 4000000) only [go_sem, Nat.reduceAdd, Nat.reduceSub, Nat.reduceMul, Nat.reduceDiv, Nat.reduceMod, Nat.reduceLT, Nat.reduceLeDiff, Nat.reduceEqDiff, Nat.reduceBEq, Nat.reduceBNe, Nat.reduceGT, Int.reduceAdd, Int.reduceSub, Int.reduceMul, Int.reduceNeg, Int.reduceLT, Int.reduceLE, Int.reduceEq, Int.reduceNe, Int.reduceBEq, Int.reduceBNe, Int.reduceToNat, Int.reduceGT, Int.reduceGE, ↓reduceIte, decide_true, decide_false, eq_self, Nat.mul_one, Nat.zero_mul, Nat.one_mul, Int.le_refl, Nat.le_refl, Int.cast_ofNat_Int, hcc, v1, o1]
            · obtain ⟨m, hm⟩ : ∃ m, i.length = m := ⟨_, rfl⟩
              have hml := surf_len l c
              rw [hn, List.length_append, hm, List.length_cons, List.length_nil] at hml
              have v0 : outVQ (surfTo l c) = .gsl 1 m 2 0 (m + 1) false := by rw [hn]; unfold outVQ; simp [hm]
              have o0 : outHQ (surfTo l c) = [(0, .grow 0 [.junk, .junk] 41 2), (1, .grow m (((i.flatMap Span.cs).map .t) ++ [.t (.int .i64 y.lo), .t (.int .i64 y.hi)]) 41 2)] := by rw [hn]; unfold outHQ; simp [hm, Span.cs]
              have hcw : ∀ L : List PO, cellsW L ((i.flatMap Span.cs).map PV.t ++ [PV.t (.int .i64 y.lo), PV.t (.int .i64 y.hi)]) ((i.flatMap Span.cs).map PV.t ++ [PV.t (.int .i64 y.lo), PV.t (.int .i64 y.hi)]) = True := fun L => eq_true (by
                have := cellsW_ttQ L (i.flatMap Span.cs ++ [.int .i64 y.lo, .int .i64 y.hi])
                simpa using this)
              have hun2 : ((i.flatMap Span.cs).map PV.t ++ [PV.t (.int .i64 y.lo), PV.t (.int .i64 ((c : Int) - 2000))]).all (PV.under 2) = true := by simp [PV.under]
              have hcw2 : ∀ L : List PO, cellsW L ((i.flatMap Span.cs).map PV.t ++ [PV.t (.int .i64 y.lo), PV.t (.int .i64 ((c : Int) - 2000))]) ((i.flatMap Span.cs).map PV.t ++ [PV.t (.int .i64 y.lo), PV.t (.int .i64 ((c : Int) - 2000))]) = True := fun L => eq_true (by
                have := cellsW_ttQ L (i.flatMap Span.cs ++ [.int .i64 y.lo, .int .i64 ((c : Int) - 2000)])
                simpa using this)
              have hun3 : ((i.flatMap Span.cs).map PV.t ++ [PV.t (.int .i64 y.lo), PV.t (.int .i64 y.hi)] ++ [PV.t (.int .i64 ((c : Int) - 2000)), PV.t (.int .i64 ((c : Int) - 2000))]).all (PV.under 2) = true := by simp [PV.under]
              have hcw3 : ∀ L : List PO, cellsW L ((i.flatMap Span.cs).map PV.t ++ [PV.t (.int .i64 y.lo), PV.t (.int .i64 y.hi)] ++ [PV.t (.int .i64 ((c : Int) - 2000)), PV.t (.int .i64 ((c : Int) - 2000))]) ((i.flatMap Span.cs).map PV.t ++ [PV.t (.int .i64 y.lo), PV.t (.int .i64 y.hi)] ++ [PV.t (.int .i64 ((c : Int) - 2000)), PV.t (.int .i64 ((c : Int) - 2000))]) = True := fun L => eq_true (by
                have := cellsW_ttQ L (i.flatMap Span.cs ++ [.int .i64 y.lo, .int .i64 y.hi] ++ [.int .i64 ((c : Int) - 2000), .int .i64 ((c : Int) - 2000)])
                simpa using this)
              obtain ⟨q1, q2, q3⟩ := surf_cellsQ i y ((c : Int) - 2000) hm
              have wm : IntKind.i64.wrap (((m + 1 : Nat) : Int) - 1) = (m : Int) := by rw [wrap_in (by omega) (by omega)]; omega
              have m0 : (0 : Int) ≤ m := by omega
              have m1 : (m : Int) < ((m + 1 : Nat) : Int) := by omega
              have m2 : ((m + 1 : Nat) : Int) > 0 := by omega
              have hle : m * 2 + 1 + 1 ≤ (m + 1) * 2 := by omega
              have hroom : (m + 1 + 1) * 16 ≤ 140737488355328 := by omega
              have wc : IntKind.i64.wrap ((c : Int) - 2000 - 1) = (c : Int) - 2000 - 1 := wrap_in (by omega) (by omega)
              have hun : ((i.flatMap Span.cs).map PV.t ++ [PV.t (.int .i64 y.lo), PV.t (.int .i64 y.hi)]).all (PV.under 2) = true := by simp [PV.under]
              simp (decide := true) (maxSteps := 4000000) only [go_sem, Nat.reduceAdd, Nat.reduceSub, Nat.reduceMul, Nat.reduceDiv, Nat.reduceMod, Nat.reduceLT, Nat.reduceLeDiff, Nat.reduceEqDiff, Nat.reduceBEq, Nat.reduceBNe, Nat.reduceGT, Int.reduceAdd, Int.reduceSub, Int.reduceMul, Int.reduceNeg, Int.reduceLT, Int.reduceLE, Int.reduceEq, Int.reduceNe, Int.reduceBEq, Int.reduceBNe, Int.reduceToNat, Int.reduceGT, Int.reduceGE, ↓reduceIte, decide_true, decide_false, eq_self, Nat.mul_one, Nat.zero_mul, Nat.one_mul, Int.le_refl, Nat.le_refl, Int.cast_ofNat_Int, hlt, v0, o0, hun, hcw]
              refine pwpC_loopU (A := { k : Nat // k ≤ l.length ∧ (l.take k).all (fun f => agB f ((c : Int) - 2000)) = true }) [0, 6, 7, 30, 31] (fun k => [(32, .t (.int .i64 k.1))]) (fun _ => []) (fun k => l.length - k.1) ⟨0, by omega, rfl⟩ (by decide) (fun _ => by rfl) ?_ fun Q3 hQ3 ⟨k, hk, hka2⟩ I3 hI3 => ?_
              · simp (decide := true) (maxSteps := 4000000) only [go_sem, Nat.reduceAdd, Nat.reduceSub, Nat.reduceMul, Nat.reduceDiv, Nat.reduceMod, Nat.reduceLT, Nat.reduceLeDiff, Nat.reduceEqDiff, Nat.reduceBEq, Nat.reduceBNe, Nat.reduceGT, Int.reduceAdd, Int.reduceSub, Int.reduceMul, Int.reduceNeg, Int.reduceLT, Int.reduceLE, Int.reduceEq, Int.reduceNe, Int.reduceBEq, Int.reduceBNe, Int.reduceToNat, Int.reduceGT, Int.reduceGE, ↓reduceIte, decide_true, decide_false, eq_self, Nat.mul_one, Nat.zero_mul, Nat.one_mul, Int.le_refl, Nat.le_refl, Int.cast_ofNat_Int, v0, o0, hun, hcw]
              · by_cases hlt3 : (k : Int) < l.length
                · obtain ⟨x, hx⟩ := get_lt hlt3
                  have hd := flat_at Fr.cs (n := 5) (fun _ => rfl) hx
                  have hc1 : IntKind.i64.wrap (k + 1) = ((k + 1 : Nat) : Int) := by rw [wrap_in (by omega) (by omega)]; omega
                  have hok := hmem x (List.mem_of_getElem? hx)
                  have ht := take_all (fun f => agB f ((c : Int) - 2000)) hx
                  rw [hka2, Bool.true_and] at ht
                  rcases (Bool.eq_false_or_eq_true (agB x ((c : Int) - 2000))).symm with hag | hag
                  · have hfa : frAll l ((c : Int) - 2000) = false := all_of_take (k := k + 1) (by rw [ht]; exact hag)
                    rw [hfa] at hsu
                    simp only [Bool.false_eq_true, if_false] at hsu
                    simp (decide := true) (maxSteps := 4000000) only [go_sem, Nat.reduceAdd, Nat.reduceSub, Nat.reduceMul, Nat.reduceDiv, Nat.reduceMod, Nat.reduceLT, Nat.reduceLeDiff, Nat.reduceEqDiff, Nat.reduceBEq, Nat.reduceBNe, Nat.reduceGT, Int.reduceAdd, Int.reduceSub, Int.reduceMul, Int.reduceNeg, Int.reduceLT, Int.reduceLE, Int.reduceEq, Int.reduceNe, Int.reduceBEq, Int.reduceBNe, Int.reduceToNat, Int.reduceGT, Int.reduceGE, ↓reduceIte, decide_true, decide_false, eq_self, Nat.mul_one, Nat.zero_mul, Nat.one_mul, Int.le_refl, Nat.le_refl, Int.cast_ofNat_Int, hlt3, hd, Fr.cs, hok, hag, v0, o0, hun, hcw]
                    refine hQ3 _ _ ?_
                    simp (decide := true) (maxSteps := 4000000) only [go_sem, Nat.reduceAdd, Nat.reduceSub, Nat.reduceMul, Nat.reduceDiv, Nat.reduceMod, Nat.reduceLT, Nat.reduceLeDiff, Nat.reduceEqDiff, Nat.reduceBEq, Nat.reduceBNe, Nat.reduceGT, Int.reduceAdd, Int.reduceSub, Int.reduceMul, Int.reduceNeg, Int.reduceLT, Int.reduceLE, Int.reduceEq, Int.reduceNe, Int.reduceBEq, Int.reduceBNe, Int.reduceToNat, Int.reduceGT, Int.reduceGE, ↓reduceIte, decide_true, decide_false, eq_self, Nat.mul_one, Nat.zero_mul, Nat.one_mul, Int.le_refl, Nat.le_refl, Int.cast_ofNat_Int]
                    refine hI2 _ ⟨c + 1, by omega⟩ (by simp only; omega) ?_
                    simp (decide := true) (maxSteps := 4000000) only [go_sem, Nat.reduceAdd, Nat.reduceSub, Nat.reduceMul, Nat.reduceDiv, Nat.reduceMod, Nat.reduceLT, Nat.reduceLeDiff, Nat.reduceEqDiff, Nat.reduceBEq, Nat.reduceBNe, Nat.reduceGT, Int.reduceAdd, Int.reduceSub, Int.reduceMul, Int.reduceNeg, Int.reduceLT, Int.reduceLE, Int.reduceEq, Int.reduceNe, Int.reduceBEq, Int.reduceBNe, Int.reduceToNat, Int.reduceGT, Int.reduceGE, ↓reduceIte, decide_true, decide_false, eq_self, Nat.mul_one, Nat.zero_mul, Nat.one_mul, Int.le_refl, Nat.le_refl, Int.cast_ofNat_Int, hcc, hsu, v0, o0, hun, hcw]
                  · simp (decide := true) (maxSteps := 4000000) only [go_sem, Nat.reduceAdd, Nat.reduceSub, Nat.reduceMul, Nat.reduceDiv, Nat.reduceMod, Nat.reduceLT, Nat.reduceLeDiff, Nat.reduceEqDiff, Nat.reduceBEq, Nat.reduceBNe, Nat.reduceGT, Int.reduceAdd, Int.reduceSub, Int.reduceMul, Int.reduceNeg, Int.reduceLT, Int.reduceLE, Int.reduceEq, Int.reduceNe, Int.reduceBEq, Int.reduceBNe, Int.reduceToNat, Int.reduceGT, Int.reduceGE, ↓reduceIte, decide_true, decide_false, eq_self, Nat.mul_one, Nat.zero_mul, Nat.one_mul, Int.le_refl, Nat.le_refl, Int.cast_ofNat_Int, hlt3, hd, Fr.cs, hok, hag, v0, o0, hun, hcw]
                    refine hI3 _ ⟨k + 1, by omega, by rw [ht]; exact hag⟩ (by simp only; omega) ?_
                    simp (decide := true) (maxSteps := 4000000) only [go_sem, Nat.reduceAdd, Nat.reduceSub, Nat.reduceMul, Nat.reduceDiv, Nat.reduceMod, Nat.reduceLT, Nat.reduceLeDiff, Nat.reduceEqDiff, Nat.reduceBEq, Nat.reduceBNe, Nat.reduceGT, Int.reduceAdd, Int.reduceSub, Int.reduceMul, Int.reduceNeg, Int.reduceLT, Int.reduceLE, Int.reduceEq, Int.reduceNe, Int.reduceBEq, Int.reduceBNe, Int.reduceToNat, Int.reduceGT, Int.reduceGE, ↓reduceIte, decide_true, decide_false, eq_self, Nat.mul_one, Nat.zero_mul, Nat.one_mul, Int.le_refl, Nat.le_refl, Int.cast_ofNat_Int, hc1, v0, o0, hun, hcw]
                · have hke : k = l.length := by omega
                  subst hke
                  rw [List.take_length] at hka2
                  have hfa : frAll l ((c : Int) - 2000) = true := hka2
                  rw [hfa] at hsu
                  simp only [if_true] at hsu
                  simp (decide := true) (maxSteps := 4000000) only [go_sem, Nat.reduceAdd, Nat.reduceSub, Nat.reduceMul, Nat.reduceDiv, Nat.reduceMod, Nat.reduceLT, Nat.reduceLeDiff, Nat.reduceEqDiff, Nat.reduceBEq, Nat.reduceBNe, Nat.reduceGT, Int.reduceAdd, Int.reduceSub, Int.reduceMul, Int.reduceNeg, Int.reduceLT, Int.reduceLE, Int.reduceEq, Int.reduceNe, Int.reduceBEq, Int.reduceBNe, Int.reduceToNat, Int.reduceGT, Int.reduceGE, ↓reduceIte, decide_true, decide_false, eq_self, Nat.mul_one, Nat.zero_mul, Nat.one_mul, Int.le_refl, Nat.le_refl, Int.cast_ofNat_Int, hlt3, v0, o0, hun, hcw]
                  refine hQ3 _ _ ?_
                  rw [hn, List.getLast?_append] at hsu
                  simp only [List.getLast?_singleton, Option.some_or] at hsu
                  by_cases hy : y.hi = (c : Int) - 2000 - 1
                  · have hy' : (y.hi == (c : Int) - 2000 - 1) = true := beq_int_t hy
                    rw [if_pos hy, List.dropLast_concat] at hsu
                    have v1 : outVQ (surfTo l (c + 1)) = .gsl 1 m 2 0 (m + 1) false := by rw [hsu]; unfold outVQ; simp [hm]
                    have o1 : outHQ (surfTo l (c + 1)) = [(0, .grow 0 [.junk, .junk] 41 2), (1, .grow m (((i.flatMap Span.cs).map .t) ++ [.t (.int .i64 y.lo), .t (.int .i64 ((c : Int) - 2000))]) 41 2)] := by rw [hsu]; unfold outHQ; simp [hm, Span.cs]
                    simp (decide := true) (maxSteps := 4000000) only [go_sem, Nat.reduceAdd, Nat.reduceSub, Nat.reduceMul, Nat.reduceDiv, Nat.reduceMod, Nat.reduceLT, Nat.reduceLeDiff, Nat.reduceEqDiff, Nat.reduceBEq, Nat.reduceBNe, Nat.reduceGT, Int.reduceAdd, Int.reduceSub, Int.reduceMul, Int.reduceNeg, Int.reduceLT, Int.reduceLE, Int.reduceEq, Int.reduceNe, Int.reduceBEq, Int.reduceBNe, Int.reduceToNat, Int.reduceGT, Int.reduceGE, ↓reduceIte, decide_true, decide_false, eq_self, Nat.mul_one, Nat.zero_mul, Nat.one_mul, Int.le_refl, Nat.le_refl, Int.cast_ofNat_Int, v0, o0, wm, m0, m1, m2, wc, q1, q2, q3, hle, hroom, hy', Int.toNat_natCast]
                    refine hI2 _ ⟨c + 1, by omega⟩ (by simp only; omega) ?_
                    simp (decide := true) (maxSteps := 4000000) only [go_sem, Nat.reduceAdd, Nat.reduceSub, Nat.reduceMul, Nat.reduceDiv, Nat.reduceMod, Nat.reduceLT, Nat.reduceLeDiff, Nat.reduceEqDiff, Nat.reduceBEq, Nat.reduceBNe, Nat.reduceGT, Int.reduceAdd, Int.reduceSub, Int.reduceMul, Int.reduceNeg, Int.reduceLT, Int.reduceLE, Int.reduceEq, Int.reduceNe, Int.reduceBEq, Int.reduceBNe, Int.reduceToNat, Int.reduceGT, Int.reduceGE, ↓reduceIte, decide_true, decide_false, eq_self, Nat.mul_one, Nat.zero_mul, Nat.one_mul, Int.le_refl, Nat.le_refl, Int.cast_ofNat_Int, hcc, v1, o1, hun2, hcw2]
                  · have hy' : (y.hi == (c : Int) - 2000 - 1) = false := beq_int_f hy
                    rw [if_neg hy] at hsu
                    have v1 : outVQ (surfTo l (c + 1)) = .gsl 1 (m + 1) 2 0 (m + 1 + 1) false := by rw [hsu]; unfold outVQ; simp [hm]
                    have o1 : outHQ (surfTo l (c + 1)) = [(0, .grow 0 [.junk, .junk] 41 2), (1, .grow (m + 1) (((i.flatMap Span.cs).map .t) ++ [.t (.int .i64 y.lo), .t (.int .i64 y.hi)] ++ [.t (.int .i64 ((c : Int) - 2000)), .t (.int .i64 ((c : Int) - 2000))]) 41 2)] := by rw [hsu]; unfold outHQ; simp [hm, Span.cs]
                    simp (decide := true) (maxSteps := 4000000) only [go_sem, Nat.reduceAdd, Nat.reduceSub, Nat.reduceMul, Nat.reduceDiv, Nat.reduceMod, Nat.reduceLT, Nat.reduceLeDiff, Nat.reduceEqDiff, Nat.reduceBEq, Nat.reduceBNe, Nat.reduceGT, Int.reduceAdd, Int.reduceSub, Int.reduceMul, Int.reduceNeg, Int.reduceLT, Int.reduceLE, Int.reduceEq, Int.reduceNe, Int.reduceBEq, Int.reduceBNe, Int.reduceToNat, Int.reduceGT, Int.reduceGE, ↓reduceIte, decide_true, decide_false, eq_self, Nat.mul_one, Nat.zero_mul, Nat.one_mul, Int.le_refl, Nat.le_refl, Int.cast_ofNat_Int, v0, o0, wm, m0, m1, m2, wc, q1, q2, q3, hle, hroom, hy', Int.toNat_natCast]
                    refine hI2 _ ⟨c + 1, by omega⟩ (by simp only; omega) ?_
                    simp (decide := true) (maxSteps := 4000000) only [go_sem, Nat.reduceAdd, Nat.reduceSub, Nat.reduceMul, Nat.reduceDiv, Nat.reduceMod, Nat.reduceLT, Nat.reduceLeDiff, Nat.reduceEqDiff, Nat.reduceBEq, Nat.reduceBNe, Nat.reduceGT, Int.reduceAdd, Int.reduceSub, Int.reduceMul, Int.reduceNeg, Int.reduceLT, Int.reduceLE, Int.reduceEq, Int.reduceNe, Int.reduceBEq, Int.reduceBNe, Int.reduceToNat, Int.reduceGT, Int.reduceGE, ↓reduceIte, decide_true, decide_false, eq_self, Nat.mul_one, Nat.zero_mul, Nat.one_mul, Int.le_refl, Nat.le_refl, Int.cast_ofNat_Int, hcc, v1, o1, hun3, hcw3]
          · have hce : c = 4001 := by omega
            subst hce
            simp (decide := true) (maxSteps := 4000000) only [go_sem, Nat.reduceAdd, Nat.reduceSub, Nat.reduceMul, Nat.reduceDiv, Nat.reduceMod, Nat.reduceLT, Nat.reduceLeDiff, Nat.reduceEqDiff, Nat.reduceBEq, Nat.reduceBNe, Nat.reduceGT, Int.reduceAdd, Int.reduceSub, Int.reduceMul, Int.reduceNeg, Int.reduceLT, Int.reduceLE, Int.reduceEq, Int.reduceNe, Int.reduceBEq, Int.reduceBNe, Int.reduceToNat, Int.reduceGT, Int.reduceGE, ↓reduceIte, decide_true, decide_false, eq_self, Nat.mul_one, Nat.zero_mul, Nat.one_mul, Int.le_refl, Nat.le_refl, Int.cast_ofNat_Int, hlt]
            refine hQ2 _ _ ?_
            rcases snoc_cases (surfTo l 4001) with hn | ⟨i, y, hn⟩
            · have v0 : outVQ (surfTo l 4001) = .t .nilSl := by rw [hn]; rfl
              have o0 : outHQ (surfTo l 4001) = [] := by rw [hn]; rfl
              have hne : (surfTo l 4001 = []) = True := eq_true hn
              simp (decide := true) (maxSteps := 4000000) only [go_sem, Nat.reduceAdd, Nat.reduceSub, Nat.reduceMul, Nat.reduceDiv, Nat.reduceMod, Nat.reduceLT, Nat.reduceLeDiff, Nat.reduceEqDiff, Nat.reduceBEq, Nat.reduceBNe, Nat.reduceGT, Int.reduceAdd, Int.reduceSub, Int.reduceMul, Int.reduceNeg, Int.reduceLT, Int.reduceLE, Int.reduceEq, Int.reduceNe, Int.reduceBEq, Int.reduceBNe, Int.reduceToNat, Int.reduceGT, Int.reduceGE, ↓reduceIte, decide_true, decide_false, eq_self, Nat.mul_one, Nat.zero_mul, Nat.one_mul, Int.le_refl, Nat.le_refl, Int.cast_ofNat_Int, v0, o0, hne, List.length_nil]
            · obtain ⟨m, hm⟩ : ∃ m, i.length = m := ⟨_, rfl⟩
              have v0 : outVQ (surfTo l 4001) = .gsl 1 m 2 0 (m + 1) false := by rw [hn]; unfold outVQ; simp [hm]
              have o0 : outHQ (surfTo l 4001) = [(0, .grow 0 [.junk, .junk] 41 2), (1, .grow m (((i.flatMap Span.cs).map .t) ++ [.t (.int .i64 y.lo), .t (.int .i64 y.hi)]) 41 2)] := by rw [hn]; unfold outHQ; simp [hm, Span.cs]
              have hne : ¬ surfTo l 4001 = [] := by rw [hn]; simp
              have hll : (surfTo l 4001).length = m + 1 := by rw [hn]; simp [hm]
              have m0 : ¬ m + 1 = 0 := by omega
              have m1 : (0 : Int) ≤ ((m + 1 : Nat) : Int) := by omega
              have hids : ((i.flatMap Span.cs).map PV.t ++ [PV.t (.int .i64 y.lo), PV.t (.int .i64 y.hi)]).flatMap idsG = [] := by
                have := idsG_ttQ (i.flatMap Span.cs ++ [.int .i64 y.lo, .int .i64 y.hi])
                simpa using this
              have hth : ∀ h : Hp, allO (((i.flatMap Span.cs).map PV.t ++ [PV.t (.int .i64 y.lo), PV.t (.int .i64 y.hi)]).map (thawC h)) = some ((surfTo l 4001).flatMap Span.cs) := by
                intro h
                have := thawC_ttQ h (i.flatMap Span.cs ++ [.int .i64 y.lo, .int .i64 y.hi])
                rw [hn]
                simpa [Span.cs] using this
              have hfl : ((surfTo l 4001).flatMap Span.cs).length = (m + 1) * 2 := by rw [flat_len Span.cs (n := 2) (fun _ => rfl), hll]
              have htk : ((surfTo l 4001).flatMap Span.cs).take ((m + 1) * 2) = (surfTo l 4001).flatMap Span.cs := List.take_of_length_le (by omega)
              have hall : allO (((i.flatMap Span.cs).map PV.t ++ [PV.t (.int .i64 y.lo), PV.t (.int .i64 y.hi)]).map PV.toT) = some ((surfTo l 4001).flatMap Span.cs) := by
                have := allO_t (i.flatMap Span.cs ++ [.int .i64 y.lo, .int .i64 y.hi])
                rw [hn]
                simpa [Span.cs] using this
              simp (decide := true) (maxSteps := 4000000) only [go_sem, Nat.reduceAdd, Nat.reduceSub, Nat.reduceMul, Nat.reduceDiv, Nat.reduceMod, Nat.reduceLT, Nat.reduceLeDiff, Nat.reduceEqDiff, Nat.reduceBEq, Nat.reduceBNe, Nat.reduceGT, Int.reduceAdd, Int.reduceSub, Int.reduceMul, Int.reduceNeg, Int.reduceLT, Int.reduceLE, Int.reduceEq, Int.reduceNe, Int.reduceBEq, Int.reduceBNe, Int.reduceToNat, Int.reduceGT, Int.reduceGE, ↓reduceIte, decide_true, decide_false, eq_self, Nat.mul_one, Nat.zero_mul, Nat.one_mul, Int.le_refl, Nat.le_refl, Int.cast_ofNat_Int, hids, hall, hth, hfl, htk, thawA, List.drop_zero, Nat.zero_add, List.foldl_nil, List.foldl_cons, v0, o0, hne, hll, m0, m1, Int.toNat_natCast, Nat.sub_zero, sliceG, Option.isSome_some, freezeW, freezeO, closedG, seenF, wr, upo]
end Gs
end Go.Proofs.YtlonlnfenbadbaaDoor

/- Part TGg. -/
namespace Go.Proofs.YtlonlnfenbadbaaDoor
open Go.RowKit Go.Pm Go.Oc Go.Oc.Ix Ix
set_option maxRecDepth 100000
set_option linter.unusedVariables false
set_option maxHeartbeats 8000000

namespace Gx
noncomputable def ixTrain : List TV → Option TV
  | [.sl cs n full, .int .i64 p, .int .i64 q] => match unI cs with
    | some st => if n = st.length ∧ stockOk1 st = true ∧ (0 ≤ p ∧ p ≤ 100000) ∧ 0 ≤ q ∧ q ≤ 100000 then some ((trainP st p q).getD noTn).tv else none
    | none => none
  | _ => none
theorem ixTrain_ok : ∀ xs r, ixTrain xs = some r → PCalls Tryd.prog 62 xs r := by
  intro xs r h
  unfold ixTrain at h
  split at h
  · rename_i cs n full p q
    split at h
    · rename_i st hl
      split at h
      · rename_i hc; cases h
        obtain ⟨rfl, h0, h1, h2⟩ := hc
        have e := unI_some hl
        rw [ic_ints] at e
        subst e
        exact iTrain_c full h0 h1 h2
      · cases h
    · cases h
  · cases h
attribute [go_sem] ixTrain
noncomputable def spGt : Pm.Spec := ((noSpec.one 61 ixWithin).one 60 ixIsStock).one 62 ixTrain
@[go_sem] theorem spGt_p (f : FuncId) (xs : List TV) : spGt.p f xs = Pm.Spec.p (((noSpec.one 61 ixWithin).one 60 ixIsStock).one 62 ixTrain) f xs := rfl
@[go_sem] theorem spGt_h (f : FuncId) (ps : List PV) (hl : List PO) : spGt.h f ps hl = Pm.Spec.h (((noSpec.one 61 ixWithin).one 60 ixIsStock).one 62 ixTrain) f ps hl := rfl
@[go_sem] theorem spGt_y (Y : Pm.YS) (f : FuncId) (ps : List PV) (hl : List PO) : spGt.y Y f ps hl = Pm.Spec.y (((noSpec.one 61 ixWithin).one 60 ixIsStock).one 62 ixTrain) Y f ps hl := rfl
@[go_sem] theorem spGt_fz (f : FuncId) : spGt.fz f = Pm.Spec.fz (((noSpec.one 61 ixWithin).one 60 ixIsStock).one 62 ixTrain) f := rfl
@[go_sem] theorem spGt_fr (f : FuncId) : spGt.fr f = Pm.Spec.fr (((noSpec.one 61 ixWithin).one 60 ixIsStock).one 62 ixTrain) f := rfl
@[go_sem] theorem spGt_yf (f : FuncId) : spGt.yf f = Pm.Spec.yf (((noSpec.one 61 ixWithin).one 60 ixIsStock).one 62 ixTrain) f := rfl
@[go_sem] theorem spGt_gd : spGt.gd = Pm.Spec.gd (((noSpec.one 61 ixWithin).one 60 ixIsStock).one 62 ixTrain) := rfl
@[go_sem] theorem spGt_mu (t : TypeId) : spGt.mu t = Pm.Spec.mu (((noSpec.one 61 ixWithin).one 60 ixIsStock).one 62 ixTrain) t := rfl
@[go_sem] theorem spGt_nf (t : TypeId) : spGt.nf t = Pm.Spec.nf (((noSpec.one 61 ixWithin).one 60 ixIsStock).one 62 ixTrain) t := rfl
theorem spGt_ok : SpecOk Tryd.prog spGt := Spec.one_ok ixTrain_ok (Spec.one_ok ixIsStock_ok (Spec.one_ok ixWithin_ok noSpec_ok))
theorem tr_not {st : List Int} {p q : Int} {tr : Tn} (h : trainP st p q = some tr) : (tr.a == -1) = false :=
  beq_int_f (by rcases train_some h with ⟨_, _, _, _, _, _, e⟩ | ⟨_, _, _, _, _, _, _, _, e⟩ <;> rw [e] <;> simp only <;> omega)
theorem iTrainE_c {st : List Int} {s : TV} (hs : IsRow ic s st) (hsl : st.length ≤ 17592186044415) (p q : Int) : PCalls Tryd.prog 17 [s, .int .i64 p, .int .i64 q] (.tup [(trainE st p q).1.tv, .int .i64 (trainE st p q).2]) := by
  have rI := rowI_is hs
  unfold rowL at rI
  unfold trainE
  refine pcalls_by Tryd.mixes spGt_ok (fn := Tryd.f17) Tryd.func17 rfl (by kernel_rfl) (by show 3 ≤ _; decide) ?_
  cases h1 : stockOk1 st with
  | false => cases h2 : inB p 1 100000 <;> cases h3 : inB q 1 100000 <;> simp (decide := true) (maxSteps := 4000000) only [go_sem, Nat.reduceAdd, Nat.reduceSub, Nat.reduceMul, Nat.reduceDiv, Nat.reduceMod, Nat.reduceLT, Nat.reduceLeDiff, Nat.reduceEqDiff, Nat.reduceBEq, Nat.reduceBNe, Nat.reduceGT, Int.reduceAdd, Int.reduceSub, Int.reduceMul, Int.reduceNeg, Int.reduceLT, Int.reduceLE, Int.reduceEq, Int.reduceNe, Int.reduceBEq, Int.reduceBNe, Int.reduceToNat, Int.reduceGT, Int.reduceGE, ↓reduceIte, decide_true, decide_false, eq_self, Nat.mul_one, Nat.zero_mul, Nat.one_mul, Int.le_refl, Nat.le_refl, Int.cast_ofNat_Int, Tryd.f17, rI, hsl, h1, h2, h3, Tn.tv, Tn.cs]
  | true =>
    have h1' := stockOk1_iff.1 h1
    cases h2 : inB p 1 100000 with
    | false => cases h3 : inB q 1 100000 <;> simp (decide := true) (maxSteps := 4000000) only [go_sem, Nat.reduceAdd, Nat.reduceSub, Nat.reduceMul, Nat.reduceDiv, Nat.reduceMod, Nat.reduceLT, Nat.reduceLeDiff, Nat.reduceEqDiff, Nat.reduceBEq, Nat.reduceBNe, Nat.reduceGT, Int.reduceAdd, Int.reduceSub, Int.reduceMul, Int.reduceNeg, Int.reduceLT, Int.reduceLE, Int.reduceEq, Int.reduceNe, Int.reduceBEq, Int.reduceBNe, Int.reduceToNat, Int.reduceGT, Int.reduceGE, ↓reduceIte, decide_true, decide_false, eq_self, Nat.mul_one, Nat.zero_mul, Nat.one_mul, Int.le_refl, Nat.le_refl, Int.cast_ofNat_Int, Tryd.f17, rI, hsl, h1, h2, h3, Tn.tv, Tn.cs]
    | true =>
      cases h3 : inB q 1 100000 with
      | false => simp (decide := true) (maxSteps := 4000000) only [go_sem, Nat.reduceAdd, Nat.reduceSub, Nat.reduceMul, Nat.reduceDiv, Nat.reduceMod, Nat.reduceLT, Nat.reduceLeDiff, Nat.reduceEqDiff, Nat.reduceBEq, Nat.reduceBNe, Nat.reduceGT, Int.reduceAdd, Int.reduceSub, Int.reduceMul, Int.reduceNeg, Int.reduceLT, Int.reduceLE, Int.reduceEq, Int.reduceNe, Int.reduceBEq, Int.reduceBNe, Int.reduceToNat, Int.reduceGT, Int.reduceGE, ↓reduceIte, decide_true, decide_false, eq_self, Nat.mul_one, Nat.zero_mul, Nat.one_mul, Int.le_refl, Nat.le_refl, Int.cast_ofNat_Int, Tryd.f17, rI, hsl, h1, h2, h3, Tn.tv, Tn.cs]
      | true =>
        have hp := inB_iff.1 h2
        have hq := inB_iff.1 h3
        obtain ⟨f, rfl⟩ := hs.ne (by omega)
        rw [ic_ints] at rI ⊢
        simp only [unI_eq, if_true] at rI
        have c1 : (0 ≤ p ∧ p ≤ 100000) ∧ 0 ≤ q ∧ q ≤ 100000 := by omega
        cases htr : trainP st p q with
        | none => simp (decide := true) (maxSteps := 4000000) only [go_sem, Nat.reduceAdd, Nat.reduceSub, Nat.reduceMul, Nat.reduceDiv, Nat.reduceMod, Nat.reduceLT, Nat.reduceLeDiff, Nat.reduceEqDiff, Nat.reduceBEq, Nat.reduceBNe, Nat.reduceGT, Int.reduceAdd, Int.reduceSub, Int.reduceMul, Int.reduceNeg, Int.reduceLT, Int.reduceLE, Int.reduceEq, Int.reduceNe, Int.reduceBEq, Int.reduceBNe, Int.reduceToNat, Int.reduceGT, Int.reduceGE, ↓reduceIte, decide_true, decide_false, eq_self, Nat.mul_one, Nat.zero_mul, Nat.one_mul, Int.le_refl, Nat.le_refl, Int.cast_ofNat_Int, Tryd.f17, rI, hsl, h1, h2, h3, unI_eq, c1, htr, Option.getD_none, noTn, Tn.tv, Tn.cs]
        | some tr =>
          have hn := tr_not htr
          simp (decide := true) (maxSteps := 4000000) only [go_sem, Nat.reduceAdd, Nat.reduceSub, Nat.reduceMul, Nat.reduceDiv, Nat.reduceMod, Nat.reduceLT, Nat.reduceLeDiff, Nat.reduceEqDiff, Nat.reduceBEq, Nat.reduceBNe, Nat.reduceGT, Int.reduceAdd, Int.reduceSub, Int.reduceMul, Int.reduceNeg, Int.reduceLT, Int.reduceLE, Int.reduceEq, Int.reduceNe, Int.reduceBEq, Int.reduceBNe, Int.reduceToNat, Int.reduceGT, Int.reduceGE, ↓reduceIte, decide_true, decide_false, eq_self, Nat.mul_one, Nat.zero_mul, Nat.one_mul, Int.le_refl, Nat.le_refl, Int.cast_ofNat_Int, Tryd.f17, rI, hsl, h1, h2, h3, unI_eq, c1, htr, Option.getD_some, hn, Tn.tv, Tn.cs, Bool.false_and]
end Gx
end Go.Proofs.YtlonlnfenbadbaaDoor
namespace Go.Proofs.YtlonlnfenbadbaaDoor
open Go.RowKit Go.Pm Go.Oc Go.Oh Go.Ow
set_option maxRecDepth 100000
set_option maxHeartbeats 8000000

theorem tSpan_c (a b : Int) : PCalls Tryd.prog 68 [.int .i64 a, .int .i64 b] (.agg [.int .i64 a, .int .i64 b]) := by
  refine pcalls_by Tryd.mixes noSpec_ok (fn := Tryd.f68) Tryd.func68 rfl (by kernel_rfl) (by show 2 ≤ _; decide) ?_
  simp (decide := true) (maxSteps := 4000000) only [go_sem, Nat.reduceAdd, Nat.reduceSub, Nat.reduceMul, Nat.reduceDiv, Nat.reduceMod, Nat.reduceLT, Nat.reduceLeDiff, Nat.reduceEqDiff, Nat.reduceBEq, Nat.reduceBNe, Nat.reduceGT, Int.reduceAdd, Int.reduceSub, Int.reduceMul, Int.reduceNeg, Int.reduceLT, Int.reduceLE, Int.reduceEq, Int.reduceNe, Int.reduceBEq, Int.reduceBNe, Int.reduceToNat, Int.reduceGT, Int.reduceGE, ↓reduceIte, decide_true, decide_false, eq_self, Nat.mul_one, Nat.zero_mul, Nat.one_mul, Int.le_refl, Nat.le_refl, Int.cast_ofNat_Int, Tryd.f68]
noncomputable def txSpan : List TV → Option TV
  | [.int .i64 a, .int .i64 b] => some (.agg [.int .i64 a, .int .i64 b])
  | _ => none
theorem txSpan_ok : ∀ xs r, txSpan xs = some r → PCalls Tryd.prog 68 xs r := by
  intro xs r h
  unfold txSpan at h
  split at h
  · cases h; exact tSpan_c _ _
  · cases h
attribute [go_sem] txSpan
theorem tClicks_e : evP Tryd.prog (evS Tryd.prog noSpec 60 5) 60 25 [.agg [.int .i64 200, .int .i64 312], .int .i64 20, .int .i64 60] = some (.tup [.int .i64 (-13), .int .i64 0]) := by kernel_rfl
theorem tSurf_p : Go.Oc.Gl.surfP [⟨⟨7, 8⟩, ⟨0, 0⟩, 0⟩] = ([⟨7, 8⟩], 0) := by decide +kernel
theorem tTrain_p : Go.Oc.Ix.trainE [20, 30, 40, 60] 3 2 = (⟨1, 0, -1, -1⟩, 0) := by decide +kernel
def grW : List Int := [20, 30]
theorem grW_ok : whOk grW := ⟨by decide, by decide⟩
theorem grW_srt : srt grW := fun j hj => by
  have : j = 0 := by simp only [grW, List.length_cons, List.length_nil] at hj; omega
  subst this; decide
theorem tCut_p : (gearsL grW.length).find? (cutsB grW 1 4 1 6) = some [0, 1] := by decide +kernel
theorem tGround_c : PCalls Tryd.prog 19 [] (.bool true) := by
  have h1 := Gx.iTrainE_c (st := [20, 30, 40, 60]) (s := .sl [.int .i64 20, .int .i64 30, .int .i64 40, .int .i64 60] 4 true) (.inr ⟨true, rfl⟩) (by decide) 3 2
  rw [tTrain_p] at h1
  have h2 := sCut_c grW true 1 4 1 6 grW_srt grW_ok (by omega) (by omega) (by omega) (by omega)
  rw [tCut_p] at h2
  have h3 : PCalls Tryd.prog 25 [.agg [.int .i64 200, .int .i64 312], .int .i64 20, .int .i64 60] (.tup [.int .i64 (-13), .int .i64 0]) := evP_ok Tryd.mixes (evS_ok Tryd.mixes noSpec_ok 5) tClicks_e
  have h4 := Gs.gSurface_cQ (l := [⟨⟨7, 8⟩, ⟨0, 0⟩, 0⟩]) (s := .sl [.int .i64 7, .int .i64 8, .int .i64 0, .int .i64 0, .int .i64 0] 1 true) (.inr ⟨true, rfl⟩) (by decide)
  rw [tSurf_p] at h4
  have u1 : unS [.int .i64 7, .int .i64 8] = some [⟨7, 8⟩] := unS_eq [⟨7, 8⟩]
  have u2 : unI [.int .i64 0, .int .i64 1] = some [0, 1] := unIs [0, 1]
  refine pcalls_by Tryd.mixes (Spec.one_ok txSpan_ok (Spec.one_ok (oneP_ok h1) (Spec.one_ok (oneP_ok h2) (Spec.one_ok (oneP_ok h3) (Spec.one_ok (oneP_ok h4) Sx.spH_ok))))) (fn := Tryd.f19) Tryd.func19 rfl (by kernel_rfl) (by show 0 ≤ _; decide) ?_
  simp (decide := true) (maxSteps := 4000000) only [go_sem, Nat.reduceAdd, Nat.reduceSub, Nat.reduceMul, Nat.reduceDiv, Nat.reduceMod, Nat.reduceLT, Nat.reduceLeDiff, Nat.reduceEqDiff, Nat.reduceBEq, Nat.reduceBNe, Nat.reduceGT, Int.reduceAdd, Int.reduceSub, Int.reduceMul, Int.reduceNeg, Int.reduceLT, Int.reduceLE, Int.reduceEq, Int.reduceNe, Int.reduceBEq, Int.reduceBNe, Int.reduceToNat, Int.reduceGT, Int.reduceGE, ↓reduceIte, decide_true, decide_false, eq_self, Nat.mul_one, Nat.zero_mul, Nat.one_mul, Int.le_refl, Nat.le_refl, Int.cast_ofNat_Int, Tryd.f19, latT, grW, ints, List.map_cons, List.map_nil, List.flatMap_cons, List.flatMap_nil, Span.cs, Go.Oc.Ix.Tn.tv, Go.Oc.Ix.Tn.cs, u1, u2]
  first | done | trace_state
noncomputable def txGround : List TV → Option TV
  | [] => some (.bool true)
  | _ => none
theorem txGround_ok : ∀ xs r, txGround xs = some r → PCalls Tryd.prog 19 xs r := by
  intro xs r h
  unfold txGround at h
  split at h
  · cases h; exact tGround_c
  · cases h
attribute [go_sem] txGround
end Go.Proofs.YtlonlnfenbadbaaDoor

/- Part TGh. -/
namespace Go.Ow
open Go Go.RowKit Go.Pm Go.Oc Go.Oh
def kpos (x : Int) : List Int → Nat
  | [] => 0
  | y :: L => if y ≤ x then kpos x L + 1 else 0
def ins (x : Int) : List Int → List Int
  | [] => [x]
  | y :: L => if y ≤ x then y :: ins x L else x :: y :: L
theorem kpos_le (x : Int) : ∀ L : List Int, kpos x L ≤ L.length
  | [] => Nat.le_refl _
  | y :: L => by unfold kpos; have := kpos_le x L; split <;> simp only [List.length_cons] <;> omega
theorem kpos_lt (x : Int) : ∀ (L : List Int) (j : Nat) (y : Int), j < kpos x L → L[j]? = some y → y ≤ x
  | [], j, y, h, _ => by simp [kpos] at h
  | z :: L, j, y, h, hy => by
    unfold kpos at h
    split at h
    · cases j with
      | zero => cases hy; assumption
      | succ j => exact kpos_lt x L j y (by omega) hy
    · omega
theorem kpos_at (x : Int) : ∀ (L : List Int) (y : Int), L[kpos x L]? = some y → ¬ y ≤ x
  | [], y, hy => by cases hy
  | z :: L, y, hy => by
    unfold kpos at hy
    split at hy
    · exact kpos_at x L y hy
    · cases hy; assumption
theorem ins_eq (x : Int) : ∀ L : List Int, ins x L = L.take (kpos x L) ++ [x] ++ L.drop (kpos x L)
  | [] => rfl
  | y :: L => by
    unfold ins kpos
    split
    · rw [ins_eq x L]; simp
    · rfl
theorem ins_len (x : Int) : ∀ L : List Int, (ins x L).length = L.length + 1
  | [] => rfl
  | y :: L => by unfold ins; split <;> simp [ins_len x L]
theorem ins_mem (x : Int) : ∀ (L : List Int) (z : Int), z ∈ ins x L → z = x ∨ z ∈ L
  | [], z, h => by simp [ins] at h; exact .inl h
  | y :: L, z, h => by
    unfold ins at h
    split at h
    · rcases List.mem_cons.1 h with h | h
      · exact .inr (by rw [h]; exact List.mem_cons_self)
      · exact (ins_mem x L z h).imp id (List.mem_cons_of_mem _)
    · rcases List.mem_cons.1 h with h | h
      · exact .inl h
      · exact .inr h
theorem ins_pw (x : Int) : ∀ L : List Int, L.Pairwise (· ≤ ·) → (ins x L).Pairwise (· ≤ ·)
  | [], _ => by simp [ins]
  | y :: L, h => by
    unfold ins
    have h' := List.pairwise_cons.1 h
    split
    · rename_i hy
      refine List.pairwise_cons.2 ⟨fun z hz => ?_, ins_pw x L h'.2⟩
      rcases ins_mem x L z hz with rfl | hz
      · exact hy
      · exact h'.1 z hz
    · rename_i hy
      refine List.pairwise_cons.2 ⟨fun z hz => ?_, h⟩
      rcases List.mem_cons.1 hz with rfl | hz
      · omega
      · have := h'.1 z hz; omega
def sortTo (l : List Int) (k : Nat) : List Int := (l.take k).foldl (fun o x => ins x o) []
theorem sortTo_succ {l : List Int} {k : Nat} {x : Int} (h : l[k]? = some x) : sortTo l (k + 1) = ins x (sortTo l k) := by
  unfold sortTo; rw [List.take_add_one, h, List.foldl_append]; rfl
theorem sortTo_len (l : List Int) : ∀ k, k ≤ l.length → (sortTo l k).length = k
  | 0, _ => rfl
  | k + 1, h => by rw [sortTo_succ (List.getElem?_eq_getElem (by omega)), ins_len, sortTo_len l k (by omega)]
theorem sortTo_pw (l : List Int) : ∀ k, k ≤ l.length → (sortTo l k).Pairwise (· ≤ ·)
  | 0, _ => List.Pairwise.nil
  | k + 1, h => by rw [sortTo_succ (List.getElem?_eq_getElem (by omega))]; exact ins_pw _ _ (sortTo_pw l k (by omega))
theorem srt_of {L : List Int} (h : L.Pairwise (· ≤ ·)) : srt L := fun j hj => by
  have a : L[j]? = some (L[j]'(by omega)) := List.getElem?_eq_getElem (by omega)
  have b : L[j + 1]? = some (L[j + 1]'(by omega)) := List.getElem?_eq_getElem (by omega)
  rw [Ix.nthI_at a, Ix.nthI_at b]
  exact List.pairwise_iff_getElem.1 h j (j + 1) (by omega) (by omega) (by omega)
end Go.Ow
namespace Go.Proofs.YtlonlnfenbadbaaDoor
open Go.RowKit Go.Pm Go.Oc Go.Oh Go.Ow
set_option maxRecDepth 100000
set_option linter.unusedVariables false
set_option maxHeartbeats 8000000

theorem gT_own (l : List Int) (n : Nat) (h : l.length = n) (h0 : ¬ n = 0) : gT l = .sl (ints l) n false := by subst h; exact gT_ne h0
theorem tSorted_c {l : List Int} (f : Bool) (hl : l.length ≤ 17592186044415) : PCalls Tryd.prog 15 [.sl (ints l) l.length f] (gT (sortTo l l.length)) := by
  refine pcalls_by Tryd.mixes noSpec_ok (fn := Tryd.f15) Tryd.func15 rfl (by kernel_rfl) (by show 1 ≤ _; decide) ?_
  simp (decide := true) (maxSteps := 4000000) only [go_sem, Nat.reduceAdd, Nat.reduceSub, Nat.reduceMul, Nat.reduceDiv, Nat.reduceMod, Nat.reduceLT, Nat.reduceLeDiff, Nat.reduceEqDiff, Nat.reduceBEq, Nat.reduceBNe, Nat.reduceGT, Int.reduceAdd, Int.reduceSub, Int.reduceMul, Int.reduceNeg, Int.reduceLT, Int.reduceLE, Int.reduceEq, Int.reduceNe, Int.reduceBEq, Int.reduceBNe, Int.reduceToNat, Int.reduceGT, Int.reduceGE, ↓reduceIte, decide_true, decide_false, eq_self, Nat.mul_one, Nat.zero_mul, Nat.one_mul, Int.le_refl, Nat.le_refl, Int.cast_ofNat_Int, Tryd.f15]
  refine pwpC_loopU (A := { i : Nat // i ≤ l.length }) [0] (fun i => [(4, .t (.int .i64 i.1)), (3, .t (gT (sortTo l i.1)))]) (fun _ => []) (fun i => l.length - i.1) ⟨0, by omega⟩ (by decide) (fun _ => by rfl) ?_ fun Q1 hQ1 ⟨i, hi⟩ I1 hI1 => ?_
  · simp (decide := true) (maxSteps := 4000000) only [go_sem, Nat.reduceAdd, Nat.reduceSub, Nat.reduceMul, Nat.reduceDiv, Nat.reduceMod, Nat.reduceLT, Nat.reduceLeDiff, Nat.reduceEqDiff, Nat.reduceBEq, Nat.reduceBNe, Nat.reduceGT, Int.reduceAdd, Int.reduceSub, Int.reduceMul, Int.reduceNeg, Int.reduceLT, Int.reduceLE, Int.reduceEq, Int.reduceNe, Int.reduceBEq, Int.reduceBNe, Int.reduceToNat, Int.reduceGT, Int.reduceGE, ↓reduceIte, decide_true, decide_false, eq_self, Nat.mul_one, Nat.zero_mul, Nat.one_mul, Int.le_refl, Nat.le_refl, Int.cast_ofNat_Int, show gT (sortTo l 0) = .nilSl from rfl]
    first | done | trace_state
  · by_cases hlt : (i : Int) < l.length
    · obtain ⟨x, hx⟩ : ∃ x, l[i]? = some x := ⟨_, List.getElem?_eq_getElem (by omega)⟩
      have hdx := ints_at hx
      rw [Nat.mul_one] at hdx
      have hsu := sortTo_succ hx
      have hln := sortTo_len l i hi
      have hw1 : IntKind.i64.wrap ((i : Int) + 1) = ((i + 1 : Nat) : Int) := by rw [wrap_in (by omega) (by omega)]; omega
      generalize hLL : sortTo l i = L at *
      have hkl := kpos_le x L
      have hka := kpos_at x L
      have hkt := kpos_lt x L
      have hie := ins_eq x L
      have hil := ins_len x L
      obtain ⟨kp, hkp⟩ : ∃ kp, kpos x L = kp := ⟨_, rfl⟩
      rw [hkp] at hkl hka hkt hie
      have hgn : gT (ins x L) = .sl (ints (ins x L)) (L.length + 1) false := gT_own _ _ hil (by omega)
      have hii : ints (ins x L) = (ints L).take kp ++ [.int .i64 x] ++ (ints L).drop kp := by rw [hie]; simp [ints, List.map_take, List.map_drop]
      have r8 : (L.length + 1) * 8 ≤ 140737488355328 := by omega
      have hlL := ints_len L
      by_cases h0 : L.length = 0
      · have hn : L = [] := List.eq_nil_of_length_eq_zero h0
        subst hn
        have hk0 : kp = 0 := by simp only [List.length_nil] at hkl; omega
        subst hk0
        simp (decide := true) (maxSteps := 4000000) only [go_sem, Nat.reduceAdd, Nat.reduceSub, Nat.reduceMul, Nat.reduceDiv, Nat.reduceMod, Nat.reduceLT, Nat.reduceLeDiff, Nat.reduceEqDiff, Nat.reduceBEq, Nat.reduceBNe, Nat.reduceGT, Int.reduceAdd, Int.reduceSub, Int.reduceMul, Int.reduceNeg, Int.reduceLT, Int.reduceLE, Int.reduceEq, Int.reduceNe, Int.reduceBEq, Int.reduceBNe, Int.reduceToNat, Int.reduceGT, Int.reduceGE, ↓reduceIte, decide_true, decide_false, eq_self, Nat.mul_one, Nat.zero_mul, Nat.one_mul, Int.le_refl, Nat.le_refl, Int.cast_ofNat_Int, hlt, gT_nil]
        refine pwpC_loopU (A := Unit) [0, 3, 4] (fun _ => [(5, .t (.int .i64 0))]) (fun _ => []) (fun _ => 0) () (by decide) (fun _ => by rfl) ?_ fun Q2 hQ2 _ I2 hI2 => ?_
        · simp (decide := true) (maxSteps := 4000000) only [go_sem, Nat.reduceAdd, Nat.reduceSub, Nat.reduceMul, Nat.reduceDiv, Nat.reduceMod, Nat.reduceLT, Nat.reduceLeDiff, Nat.reduceEqDiff, Nat.reduceBEq, Nat.reduceBNe, Nat.reduceGT, Int.reduceAdd, Int.reduceSub, Int.reduceMul, Int.reduceNeg, Int.reduceLT, Int.reduceLE, Int.reduceEq, Int.reduceNe, Int.reduceBEq, Int.reduceBNe, Int.reduceToNat, Int.reduceGT, Int.reduceGE, ↓reduceIte, decide_true, decide_false, eq_self, Nat.mul_one, Nat.zero_mul, Nat.one_mul, Int.le_refl, Nat.le_refl, Int.cast_ofNat_Int]
        · simp (decide := true) (maxSteps := 4000000) only [go_sem, Nat.reduceAdd, Nat.reduceSub, Nat.reduceMul, Nat.reduceDiv, Nat.reduceMod, Nat.reduceLT, Nat.reduceLeDiff, Nat.reduceEqDiff, Nat.reduceBEq, Nat.reduceBNe, Nat.reduceGT, Int.reduceAdd, Int.reduceSub, Int.reduceMul, Int.reduceNeg, Int.reduceLT, Int.reduceLE, Int.reduceEq, Int.reduceNe, Int.reduceBEq, Int.reduceBNe, Int.reduceToNat, Int.reduceGT, Int.reduceGE, ↓reduceIte, decide_true, decide_false, eq_self, Nat.mul_one, Nat.zero_mul, Nat.one_mul, Int.le_refl, Nat.le_refl, Int.cast_ofNat_Int, hlt, hdx]
          refine hQ2 _ _ ?_
          simp (decide := true) (maxSteps := 4000000) only [go_sem, Nat.reduceAdd, Nat.reduceSub, Nat.reduceMul, Nat.reduceDiv, Nat.reduceMod, Nat.reduceLT, Nat.reduceLeDiff, Nat.reduceEqDiff, Nat.reduceBEq, Nat.reduceBNe, Nat.reduceGT, Int.reduceAdd, Int.reduceSub, Int.reduceMul, Int.reduceNeg, Int.reduceLT, Int.reduceLE, Int.reduceEq, Int.reduceNe, Int.reduceBEq, Int.reduceBNe, Int.reduceToNat, Int.reduceGT, Int.reduceGE, ↓reduceIte, decide_true, decide_false, eq_self, Nat.mul_one, Nat.zero_mul, Nat.one_mul, Int.le_refl, Nat.le_refl, Int.cast_ofNat_Int, hlt, hdx]
          refine hI1 _ ⟨i + 1, by omega⟩ (by simp only; omega) ?_
          simp (decide := true) (maxSteps := 4000000) only [go_sem, Nat.reduceAdd, Nat.reduceSub, Nat.reduceMul, Nat.reduceDiv, Nat.reduceMod, Nat.reduceLT, Nat.reduceLeDiff, Nat.reduceEqDiff, Nat.reduceBEq, Nat.reduceBNe, Nat.reduceGT, Int.reduceAdd, Int.reduceSub, Int.reduceMul, Int.reduceNeg, Int.reduceLT, Int.reduceLE, Int.reduceEq, Int.reduceNe, Int.reduceBEq, Int.reduceBNe, Int.reduceToNat, Int.reduceGT, Int.reduceGE, ↓reduceIte, decide_true, decide_false, eq_self, Nat.mul_one, Nat.zero_mul, Nat.one_mul, Int.le_refl, Nat.le_refl, Int.cast_ofNat_Int, hw1, hsu, hgn, hii, show ints [] = [] from rfl]
          first | done | trace_state
      · have hg := gT_ne h0
        simp (decide := true) (maxSteps := 4000000) only [go_sem, Nat.reduceAdd, Nat.reduceSub, Nat.reduceMul, Nat.reduceDiv, Nat.reduceMod, Nat.reduceLT, Nat.reduceLeDiff, Nat.reduceEqDiff, Nat.reduceBEq, Nat.reduceBNe, Nat.reduceGT, Int.reduceAdd, Int.reduceSub, Int.reduceMul, Int.reduceNeg, Int.reduceLT, Int.reduceLE, Int.reduceEq, Int.reduceNe, Int.reduceBEq, Int.reduceBNe, Int.reduceToNat, Int.reduceGT, Int.reduceGE, ↓reduceIte, decide_true, decide_false, eq_self, Nat.mul_one, Nat.zero_mul, Nat.one_mul, Int.le_refl, Nat.le_refl, Int.cast_ofNat_Int, hlt, hg]
        refine pwpC_loopU (A := { k : Nat // k ≤ kp }) [0, 3, 4] (fun k => [(5, .t (.int .i64 k.1))]) (fun _ => []) (fun k => kp - k.1) ⟨0, by omega⟩ (by decide) (fun _ => by rfl) ?_ fun Q2 hQ2 ⟨k, hk⟩ I2 hI2 => ?_
        · simp (decide := true) (maxSteps := 4000000) only [go_sem, Nat.reduceAdd, Nat.reduceSub, Nat.reduceMul, Nat.reduceDiv, Nat.reduceMod, Nat.reduceLT, Nat.reduceLeDiff, Nat.reduceEqDiff, Nat.reduceBEq, Nat.reduceBNe, Nat.reduceGT, Int.reduceAdd, Int.reduceSub, Int.reduceMul, Int.reduceNeg, Int.reduceLT, Int.reduceLE, Int.reduceEq, Int.reduceNe, Int.reduceBEq, Int.reduceBNe, Int.reduceToNat, Int.reduceGT, Int.reduceGE, ↓reduceIte, decide_true, decide_false, eq_self, Nat.mul_one, Nat.zero_mul, Nat.one_mul, Int.le_refl, Nat.le_refl, Int.cast_ofNat_Int]
        · have hwk : IntKind.i64.wrap ((k : Int) + 1) = ((k + 1 : Nat) : Int) := by rw [wrap_in (by omega) (by omega)]; omega
          by_cases hkk : k < kp
          · obtain ⟨y, hy⟩ : ∃ y, L[k]? = some y := ⟨_, List.getElem?_eq_getElem (by omega)⟩
            have hdy := ints_at hy
            rw [Nat.mul_one] at hdy
            have hyx := hkt k y hkk hy
            have hkL : (k : Int) < L.length := by omega
            simp (decide := true) (maxSteps := 4000000) only [go_sem, Nat.reduceAdd, Nat.reduceSub, Nat.reduceMul, Nat.reduceDiv, Nat.reduceMod, Nat.reduceLT, Nat.reduceLeDiff, Nat.reduceEqDiff, Nat.reduceBEq, Nat.reduceBNe, Nat.reduceGT, Int.reduceAdd, Int.reduceSub, Int.reduceMul, Int.reduceNeg, Int.reduceLT, Int.reduceLE, Int.reduceEq, Int.reduceNe, Int.reduceBEq, Int.reduceBNe, Int.reduceToNat, Int.reduceGT, Int.reduceGE, ↓reduceIte, decide_true, decide_false, eq_self, Nat.mul_one, Nat.zero_mul, Nat.one_mul, Int.le_refl, Nat.le_refl, Int.cast_ofNat_Int, hkL, hdy, hlt, hdx, hyx]
            refine hI2 _ ⟨k + 1, by omega⟩ (by simp only; omega) ?_
            simp (decide := true) (maxSteps := 4000000) only [go_sem, Nat.reduceAdd, Nat.reduceSub, Nat.reduceMul, Nat.reduceDiv, Nat.reduceMod, Nat.reduceLT, Nat.reduceLeDiff, Nat.reduceEqDiff, Nat.reduceBEq, Nat.reduceBNe, Nat.reduceGT, Int.reduceAdd, Int.reduceSub, Int.reduceMul, Int.reduceNeg, Int.reduceLT, Int.reduceLE, Int.reduceEq, Int.reduceNe, Int.reduceBEq, Int.reduceBNe, Int.reduceToNat, Int.reduceGT, Int.reduceGE, ↓reduceIte, decide_true, decide_false, eq_self, Nat.mul_one, Nat.zero_mul, Nat.one_mul, Int.le_refl, Nat.le_refl, Int.cast_ofNat_Int, hwk]
          · have hke : k = kp := by omega
            subst hke
            have q1 : (0 : Int) ≤ k ∧ (k : Int) ≤ L.length := by omega
            have q2 : (k : Int) ≤ L.length := by omega
            have htl : (List.take k (ints L)).length = k := by rw [List.length_take, hlL]; omega
            have hdl : (List.drop k (ints L)).length = L.length - k := by rw [List.length_drop, hlL]
            have htf : List.take L.length (ints L) = ints L := List.take_of_length_le (by omega)
            have r1 : k * 8 ≤ 140737488355328 := by omega
            have r2 : (k + 1) * 8 ≤ 140737488355328 := by omega
            have r3 : (k + 1 + (L.length - k)) * 8 ≤ 140737488355328 := by omega
            have r4 : (1 + L.length) * 8 ≤ 140737488355328 := by omega
            have s1 : (List.take k (ints L) ++ [TV.int .i64 x]).length = k + 1 := by rw [List.length_append, htl]; rfl
            have fin : ∀ kk : Nat, kk = L.length + 1 → True := fun _ _ => trivial
            by_cases hkL : (k : Int) < L.length
            · obtain ⟨y, hy⟩ : ∃ y, L[k]? = some y := ⟨_, List.getElem?_eq_getElem (by omega)⟩
              have hdy := ints_at hy
              rw [Nat.mul_one] at hdy
              have hyx := hka y hy
              have hm : ¬ L.length - k = 0 := by omega
              have e1 : k + 1 + (L.length - k) = L.length + 1 := by omega
              simp (decide := true) (maxSteps := 4000000) only [go_sem, Nat.reduceAdd, Nat.reduceSub, Nat.reduceMul, Nat.reduceDiv, Nat.reduceMod, Nat.reduceLT, Nat.reduceLeDiff, Nat.reduceEqDiff, Nat.reduceBEq, Nat.reduceBNe, Nat.reduceGT, Int.reduceAdd, Int.reduceSub, Int.reduceMul, Int.reduceNeg, Int.reduceLT, Int.reduceLE, Int.reduceEq, Int.reduceNe, Int.reduceBEq, Int.reduceBNe, Int.reduceToNat, Int.reduceGT, Int.reduceGE, ↓reduceIte, decide_true, decide_false, eq_self, Nat.mul_one, Nat.zero_mul, Nat.one_mul, Int.le_refl, Nat.le_refl, Int.cast_ofNat_Int, hkL, hdy, hlt, hdx, hyx]
              refine hQ2 _ _ ?_
              by_cases hk0 : k = 0
              · subst hk0
                simp (decide := true) (maxSteps := 4000000) only [go_sem, Nat.reduceAdd, Nat.reduceSub, Nat.reduceMul, Nat.reduceDiv, Nat.reduceMod, Nat.reduceLT, Nat.reduceLeDiff, Nat.reduceEqDiff, Nat.reduceBEq, Nat.reduceBNe, Nat.reduceGT, Int.reduceAdd, Int.reduceSub, Int.reduceMul, Int.reduceNeg, Int.reduceLT, Int.reduceLE, Int.reduceEq, Int.reduceNe, Int.reduceBEq, Int.reduceBNe, Int.reduceToNat, Int.reduceGT, Int.reduceGE, ↓reduceIte, decide_true, decide_false, eq_self, Nat.mul_one, Nat.zero_mul, Nat.one_mul, Int.le_refl, Nat.le_refl, Int.cast_ofNat_Int, q1, q2, hlt, hdx, htl, hlL, htf, hm, r1, r2, r3, r4, s1, Nat.mul_one, List.drop_zero, h0]
                refine hI1 _ ⟨i + 1, by omega⟩ (by simp only; omega) ?_
                have a1 : 1 + L.length = L.length + 1 := by omega
                simp (decide := true) (maxSteps := 4000000) only [go_sem, Nat.reduceAdd, Nat.reduceSub, Nat.reduceMul, Nat.reduceDiv, Nat.reduceMod, Nat.reduceLT, Nat.reduceLeDiff, Nat.reduceEqDiff, Nat.reduceBEq, Nat.reduceBNe, Nat.reduceGT, Int.reduceAdd, Int.reduceSub, Int.reduceMul, Int.reduceNeg, Int.reduceLT, Int.reduceLE, Int.reduceEq, Int.reduceNe, Int.reduceBEq, Int.reduceBNe, Int.reduceToNat, Int.reduceGT, Int.reduceGE, ↓reduceIte, decide_true, decide_false, eq_self, Nat.mul_one, Nat.zero_mul, Nat.one_mul, Int.le_refl, Nat.le_refl, Int.cast_ofNat_Int, hw1, hsu, hgn, hii, a1, List.drop_zero]
                first | done | trace_state
              · simp (decide := true) (maxSteps := 4000000) only [go_sem, Nat.reduceAdd, Nat.reduceSub, Nat.reduceMul, Nat.reduceDiv, Nat.reduceMod, Nat.reduceLT, Nat.reduceLeDiff, Nat.reduceEqDiff, Nat.reduceBEq, Nat.reduceBNe, Nat.reduceGT, Int.reduceAdd, Int.reduceSub, Int.reduceMul, Int.reduceNeg, Int.reduceLT, Int.reduceLE, Int.reduceEq, Int.reduceNe, Int.reduceBEq, Int.reduceBNe, Int.reduceToNat, Int.reduceGT, Int.reduceGE, ↓reduceIte, decide_true, decide_false, eq_self, Nat.mul_one, Nat.zero_mul, Nat.one_mul, Int.le_refl, Nat.le_refl, Int.cast_ofNat_Int, q1, q2, hlt, hdx, htl, hdl, hlL, htf, hk0, hm, r1, r2, r3, s1, Nat.mul_one, List.drop_zero]
                refine hI1 _ ⟨i + 1, by omega⟩ (by simp only; omega) ?_
                simp (decide := true) (maxSteps := 4000000) only [go_sem, Nat.reduceAdd, Nat.reduceSub, Nat.reduceMul, Nat.reduceDiv, Nat.reduceMod, Nat.reduceLT, Nat.reduceLeDiff, Nat.reduceEqDiff, Nat.reduceBEq, Nat.reduceBNe, Nat.reduceGT, Int.reduceAdd, Int.reduceSub, Int.reduceMul, Int.reduceNeg, Int.reduceLT, Int.reduceLE, Int.reduceEq, Int.reduceNe, Int.reduceBEq, Int.reduceBNe, Int.reduceToNat, Int.reduceGT, Int.reduceGE, ↓reduceIte, decide_true, decide_false, eq_self, Nat.mul_one, Nat.zero_mul, Nat.one_mul, Int.le_refl, Nat.le_refl, Int.cast_ofNat_Int, hw1, hsu, hgn, hii, e1]
                first | done | trace_state
            · have hkle : k = L.length := by omega
              simp (decide := true) (maxSteps := 4000000) only [go_sem, Nat.reduceAdd, Nat.reduceSub, Nat.reduceMul, Nat.reduceDiv, Nat.reduceMod, Nat.reduceLT, Nat.reduceLeDiff, Nat.reduceEqDiff, Nat.reduceBEq, Nat.reduceBNe, Nat.reduceGT, Int.reduceAdd, Int.reduceSub, Int.reduceMul, Int.reduceNeg, Int.reduceLT, Int.reduceLE, Int.reduceEq, Int.reduceNe, Int.reduceBEq, Int.reduceBNe, Int.reduceToNat, Int.reduceGT, Int.reduceGE, ↓reduceIte, decide_true, decide_false, eq_self, Nat.mul_one, Nat.zero_mul, Nat.one_mul, Int.le_refl, Nat.le_refl, Int.cast_ofNat_Int, hkL, hlt, hdx]
              refine hQ2 _ _ ?_
              have hm0 : L.length - k = 0 := by omega
              have hd0 : List.drop k (ints L) = [] := List.drop_eq_nil_of_le (by omega)
              have hk0 : ¬ k = 0 := by omega
              have hk1 : k + 1 = L.length + 1 := by omega
              simp (decide := true) (maxSteps := 4000000) only [go_sem, Nat.reduceAdd, Nat.reduceSub, Nat.reduceMul, Nat.reduceDiv, Nat.reduceMod, Nat.reduceLT, Nat.reduceLeDiff, Nat.reduceEqDiff, Nat.reduceBEq, Nat.reduceBNe, Nat.reduceGT, Int.reduceAdd, Int.reduceSub, Int.reduceMul, Int.reduceNeg, Int.reduceLT, Int.reduceLE, Int.reduceEq, Int.reduceNe, Int.reduceBEq, Int.reduceBNe, Int.reduceToNat, Int.reduceGT, Int.reduceGE, ↓reduceIte, decide_true, decide_false, eq_self, Nat.mul_one, Nat.zero_mul, Nat.one_mul, Int.le_refl, Nat.le_refl, Int.cast_ofNat_Int, q1, q2, hlt, hdx, htl, hdl, hlL, htf, hk0, hm0, hd0, r1, r2, r3, s1, Nat.mul_one, List.drop_zero]
              refine hI1 _ ⟨i + 1, by omega⟩ (by simp only; omega) ?_
              simp (decide := true) (maxSteps := 4000000) only [go_sem, Nat.reduceAdd, Nat.reduceSub, Nat.reduceMul, Nat.reduceDiv, Nat.reduceMod, Nat.reduceLT, Nat.reduceLeDiff, Nat.reduceEqDiff, Nat.reduceBEq, Nat.reduceBNe, Nat.reduceGT, Int.reduceAdd, Int.reduceSub, Int.reduceMul, Int.reduceNeg, Int.reduceLT, Int.reduceLE, Int.reduceEq, Int.reduceNe, Int.reduceBEq, Int.reduceBNe, Int.reduceToNat, Int.reduceGT, Int.reduceGE, ↓reduceIte, decide_true, decide_false, eq_self, Nat.mul_one, Nat.zero_mul, Nat.one_mul, Int.le_refl, Nat.le_refl, Int.cast_ofNat_Int, hw1, hsu, hgn, hii, hd0, ← hkle]
              first | done | trace_state
    · have hil : i = l.length := by omega
      subst hil
      simp (decide := true) (maxSteps := 4000000) only [go_sem, Nat.reduceAdd, Nat.reduceSub, Nat.reduceMul, Nat.reduceDiv, Nat.reduceMod, Nat.reduceLT, Nat.reduceLeDiff, Nat.reduceEqDiff, Nat.reduceBEq, Nat.reduceBNe, Nat.reduceGT, Int.reduceAdd, Int.reduceSub, Int.reduceMul, Int.reduceNeg, Int.reduceLT, Int.reduceLE, Int.reduceEq, Int.reduceNe, Int.reduceBEq, Int.reduceBNe, Int.reduceToNat, Int.reduceGT, Int.reduceGE, ↓reduceIte, decide_true, decide_false, eq_self, Nat.mul_one, Nat.zero_mul, Nat.one_mul, Int.le_refl, Nat.le_refl, Int.cast_ofNat_Int, hlt]
      refine hQ1 _ _ ?_
      simp (decide := true) (maxSteps := 4000000) only [go_sem, Nat.reduceAdd, Nat.reduceSub, Nat.reduceMul, Nat.reduceDiv, Nat.reduceMod, Nat.reduceLT, Nat.reduceLeDiff, Nat.reduceEqDiff, Nat.reduceBEq, Nat.reduceBNe, Nat.reduceGT, Int.reduceAdd, Int.reduceSub, Int.reduceMul, Int.reduceNeg, Int.reduceLT, Int.reduceLE, Int.reduceEq, Int.reduceNe, Int.reduceBEq, Int.reduceBNe, Int.reduceToNat, Int.reduceGT, Int.reduceGE, ↓reduceIte, decide_true, decide_false, eq_self, Nat.mul_one, Nat.zero_mul, Nat.one_mul, Int.le_refl, Nat.le_refl, Int.cast_ofNat_Int]
      first | done | trace_state
end Go.Proofs.YtlonlnfenbadbaaDoor

/- Part TGi. -/
namespace Go.Proofs.YtlonlnfenbadbaaDoor
open Go.RowKit Go.Pm Go.Oc Go.Oh Go.Ow
set_option maxRecDepth 100000
set_option linter.unusedVariables false
set_option maxHeartbeats 8000000

theorem fits_cut {W : List Int} (hW : whOk W) {p q : Int} (hp : 1 ≤ p) (hq : 1 ≤ q) {g : List Int} (hg : isG W.length g) : Ix.fitsL W p q g = cutsB W 1 1 p q g := by
  have hb := cutP_b hW (num := 1) (den := 1) (by omega) (by omega) (isG_ok hg)
  unfold cutsB
  rw [Bool.eq_iff_iff, decide_eq_true_eq, lowP_eq (by omega) (by omega) (by omega) (by omega)]
  rcases isG_cases hg with ⟨a, b, rfl, _⟩ | ⟨a, b, c, d, rfl, _⟩
  · simp only [Ix.fitsL, Ix.drvL, cutP, beq_iff_eq, Int.one_mul]
    show q * at_ W a = p * at_ W b ↔ _
    constructor
    · intro h; rw [Int.mul_comm (at_ W a) q, h, Int.mul_comm]
    · intro h; rw [Int.mul_comm q, h, Int.mul_comm]
  · simp only [Ix.fitsL, Ix.drvL, cutP, beq_iff_eq, Int.one_mul]
    show q * at_ W a * at_ W c = p * at_ W b * at_ W d ↔ _
    rw [Int.mul_assoc q, Int.mul_assoc p]
    constructor
    · intro h; rw [Int.mul_comm _ q, h, Int.mul_comm]
    · intro h; rw [Int.mul_comm q, h, Int.mul_comm]
theorem find_congr {α : Type} {p q : α → Bool} : ∀ {l : List α}, (∀ x ∈ l, p x = q x) → l.find? p = l.find? q
  | [], _ => rfl
  | x :: l, h => by rw [List.find?_cons, List.find?_cons, h x List.mem_cons_self, find_congr fun y hy => h y (List.mem_cons_of_mem _ hy)]
theorem train_find {W : List Int} (hW : whOk W) {p q : Int} (hp : 1 ≤ p) (hq : 1 ≤ q) : Ix.trainP W p q = ((gearsL W.length).find? (cutsB W 1 1 p q)).map Ix.tnOf := by
  have h0 : gOk W.length 0 [] := ⟨rfl, List.nodup_nil, fun x hx => by cases hx⟩
  have g2 : ∀ g ∈ dfs W.length 2 [], isG W.length g := fun g hg => gearsL_ok _ g (List.mem_append_left _ hg)
  have g4 : ∀ g ∈ dfs W.length 4 [], isG W.length g := fun g hg => gearsL_ok _ g (List.mem_append_right _ hg)
  unfold Ix.trainP gearsL
  rw [srch_dfs, srch_dfs, List.find?_append, find_congr fun g hg => fits_cut hW hp hq (g2 g hg), find_congr fun g hg => fits_cut hW hp hq (g4 g hg)]
  cases (dfs W.length 2 []).find? (cutsB W 1 1 p q) <;> rfl
theorem wh_stock {W : List Int} : Ix.stockOk1 W = true ↔ whOk W := by
  unfold Ix.stockOk1 whOk
  rw [Bool.and_eq_true, inB_iff, List.all_eq_true]
  constructor
  · rintro ⟨h1, h2⟩; exact ⟨by omega, fun x hx => inB_iff.1 (h2 x hx)⟩
  · rintro ⟨h1, h2⟩; exact ⟨by omega, fun x hx => inB_iff.2 (h2 x hx)⟩
theorem lowP_mul {p q : Int} (hp : 1 ≤ p) (hq : 1 ≤ q) : (lowP p q).1 * q = (lowP p q).2 * p ∧ (0 ≤ (lowP p q).1 ∧ (lowP p q).1 ≤ p) ∧ 0 ≤ (lowP p q).2 ∧ (lowP p q).2 ≤ q := by
  unfold lowP
  have d1 : (Int.gcd p q : Int) ∣ p := Int.gcd_dvd_left ..
  have d2 : (Int.gcd p q : Int) ∣ q := Int.gcd_dvd_right ..
  obtain ⟨a, ha⟩ := d1
  obtain ⟨b, hb⟩ := d2
  have hg : (Int.gcd p q : Int) ≠ 0 := fun e => by rw [e, Int.zero_mul] at ha; omega
  have e1 : p / (Int.gcd p q : Int) = a := Int.ediv_eq_of_eq_mul_right hg ha
  have e2 : q / (Int.gcd p q : Int) = b := Int.ediv_eq_of_eq_mul_right hg hb
  have n0 : (0 : Int) ≤ (Int.gcd p q : Int) := Int.natCast_nonneg _
  refine ⟨?_, ⟨Int.ediv_nonneg (by omega) n0, Int.ediv_le_self _ (by omega)⟩, Int.ediv_nonneg (by omega) n0, Int.ediv_le_self _ (by omega)⟩
  rw [e1, e2]
  generalize (Int.gcd p q : Int) = G at *
  rw [hb, ha, Int.mul_left_comm, Int.mul_comm a, Int.mul_left_comm b]
theorem tSortedNil_c : PCalls Tryd.prog 15 [.nilSl] .nilSl := by
  refine pcalls_by Tryd.mixes noSpec_ok (fn := Tryd.f15) Tryd.func15 rfl (by kernel_rfl) (by show 1 ≤ _; decide) ?_
  simp (decide := true) (maxSteps := 4000000) only [go_sem, Nat.reduceAdd, Nat.reduceSub, Nat.reduceMul, Nat.reduceDiv, Nat.reduceMod, Nat.reduceLT, Nat.reduceLeDiff, Nat.reduceEqDiff, Nat.reduceBEq, Nat.reduceBNe, Nat.reduceGT, Int.reduceAdd, Int.reduceSub, Int.reduceMul, Int.reduceNeg, Int.reduceLT, Int.reduceLE, Int.reduceEq, Int.reduceNe, Int.reduceBEq, Int.reduceBNe, Int.reduceToNat, Int.reduceGT, Int.reduceGE, ↓reduceIte, decide_true, decide_false, eq_self, Nat.mul_one, Nat.zero_mul, Nat.one_mul, Int.le_refl, Nat.le_refl, Int.cast_ofNat_Int, Tryd.f15]
  refine pwpC_loopU (A := Unit) [0] (fun _ => [(4, .t (.int .i64 0)), (3, .t .nilSl)]) (fun _ => []) (fun _ => 0) () (by decide) (fun _ => by rfl) ?_ fun Q1 hQ1 _ I1 hI1 => ?_
  · simp (decide := true) (maxSteps := 4000000) only [go_sem, Nat.reduceAdd, Nat.reduceSub, Nat.reduceMul, Nat.reduceDiv, Nat.reduceMod, Nat.reduceLT, Nat.reduceLeDiff, Nat.reduceEqDiff, Nat.reduceBEq, Nat.reduceBNe, Nat.reduceGT, Int.reduceAdd, Int.reduceSub, Int.reduceMul, Int.reduceNeg, Int.reduceLT, Int.reduceLE, Int.reduceEq, Int.reduceNe, Int.reduceBEq, Int.reduceBNe, Int.reduceToNat, Int.reduceGT, Int.reduceGE, ↓reduceIte, decide_true, decide_false, eq_self, Nat.mul_one, Nat.zero_mul, Nat.one_mul, Int.le_refl, Nat.le_refl, Int.cast_ofNat_Int]
  · simp (decide := true) (maxSteps := 4000000) only [go_sem, Nat.reduceAdd, Nat.reduceSub, Nat.reduceMul, Nat.reduceDiv, Nat.reduceMod, Nat.reduceLT, Nat.reduceLeDiff, Nat.reduceEqDiff, Nat.reduceBEq, Nat.reduceBNe, Nat.reduceGT, Int.reduceAdd, Int.reduceSub, Int.reduceMul, Int.reduceNeg, Int.reduceLT, Int.reduceLE, Int.reduceEq, Int.reduceNe, Int.reduceBEq, Int.reduceBNe, Int.reduceToNat, Int.reduceGT, Int.reduceGE, ↓reduceIte, decide_true, decide_false, eq_self, Nat.mul_one, Nat.zero_mul, Nat.one_mul, Int.le_refl, Nat.le_refl, Int.cast_ofNat_Int]
    refine hQ1 _ _ ?_
    simp (decide := true) (maxSteps := 4000000) only [go_sem, Nat.reduceAdd, Nat.reduceSub, Nat.reduceMul, Nat.reduceDiv, Nat.reduceMod, Nat.reduceLT, Nat.reduceLeDiff, Nat.reduceEqDiff, Nat.reduceBEq, Nat.reduceBNe, Nat.reduceGT, Int.reduceAdd, Int.reduceSub, Int.reduceMul, Int.reduceNeg, Int.reduceLT, Int.reduceLE, Int.reduceEq, Int.reduceNe, Int.reduceBEq, Int.reduceBNe, Int.reduceToNat, Int.reduceGT, Int.reduceGE, ↓reduceIte, decide_true, decide_false, eq_self, Nat.mul_one, Nat.zero_mul, Nat.one_mul, Int.le_refl, Nat.le_refl, Int.cast_ofNat_Int]
    first | done | trace_state
theorem tSort_c {l : List Int} {s : TV} (hs : IsRow ic s l) (hl : l.length ≤ 17592186044415) : PCalls Tryd.prog 15 [s] (gT (sortTo l l.length)) := by
  rcases hs with ⟨rfl, rfl⟩ | ⟨f, rfl⟩
  · exact tSortedNil_c
  · rw [ic_ints]; exact tSorted_c f hl
theorem gT_row (L : List Int) : IsRow Ix.ic (gT L) L := by
  unfold gT
  split
  · rename_i h; exact .inl ⟨rfl, List.eq_nil_of_length_eq_zero h⟩
  · exact .inr ⟨false, by rw [show L.flatMap Ix.ic = ints L from Ix.ic_ints L]⟩
theorem sCutBad_c (W : List Int) (num den p q : Int) (hs : srt W) (hl : W.length ≤ 17592186044415) (h : latOk W num den = false) (t : TV) (ht : PCalls Tryd.prog 63 [.agg [t, .int .i64 num, .int .i64 den]] (.int .i64 20)) : PCalls Tryd.prog 18 [.agg [t, .int .i64 num, .int .i64 den], .int .i64 p, .int .i64 q] (.tup [.nilSl, .int .i64 20]) := by
  refine pcalls_by Tryd.mixes (Spec.one_ok (oneP_ok ht) noSpec_ok) (fn := Tryd.f18) Tryd.func18 rfl (by kernel_rfl) (by show 3 ≤ _; decide) ?_
  simp (decide := true) (maxSteps := 4000000) only [go_sem, Nat.reduceAdd, Nat.reduceSub, Nat.reduceMul, Nat.reduceDiv, Nat.reduceMod, Nat.reduceLT, Nat.reduceLeDiff, Nat.reduceEqDiff, Nat.reduceBEq, Nat.reduceBNe, Nat.reduceGT, Int.reduceAdd, Int.reduceSub, Int.reduceMul, Int.reduceNeg, Int.reduceLT, Int.reduceLE, Int.reduceEq, Int.reduceNe, Int.reduceBEq, Int.reduceBNe, Int.reduceToNat, Int.reduceGT, Int.reduceGE, ↓reduceIte, decide_true, decide_false, eq_self, Nat.mul_one, Nat.zero_mul, Nat.one_mul, Int.le_refl, Nat.le_refl, Int.cast_ofNat_Int, Tryd.f18, pcells]
  first | done | trace_state
end Go.Proofs.YtlonlnfenbadbaaDoor

/- Part TGj. -/
namespace Go.Proofs.YtlonlnfenbadbaaDoor
open Go.RowKit Go.Pm Go.Oc Go.Oh Go.Ow
set_option maxRecDepth 100000
set_option linter.unusedVariables false
set_option maxHeartbeats 8000000

theorem sCheckNil_c (num den : Int) (hn : inB num 1 1000 = true) (hd : inB den 1 1000 = true) : PCalls Tryd.prog 63 [.agg [.nilSl, .int .i64 num, .int .i64 den]] (.int .i64 20) := by
  refine pcalls_by Tryd.mixes spGl_ok (fn := Tryd.f63) Tryd.func63 rfl (by kernel_rfl) (by show 1 ≤ _; decide) ?_
  simp (decide := true) (maxSteps := 4000000) only [go_sem, Nat.reduceAdd, Nat.reduceSub, Nat.reduceMul, Nat.reduceDiv, Nat.reduceMod, Nat.reduceLT, Nat.reduceLeDiff, Nat.reduceEqDiff, Nat.reduceBEq, Nat.reduceBNe, Nat.reduceGT, Int.reduceAdd, Int.reduceSub, Int.reduceMul, Int.reduceNeg, Int.reduceLT, Int.reduceLE, Int.reduceEq, Int.reduceNe, Int.reduceBEq, Int.reduceBNe, Int.reduceToNat, Int.reduceGT, Int.reduceGE, ↓reduceIte, decide_true, decide_false, eq_self, Nat.mul_one, Nat.zero_mul, Nat.one_mul, Int.le_refl, Nat.le_refl, Int.cast_ofNat_Int, Tryd.f63, show inB 0 2 10 = false from rfl, hn, hd]
  refine pwpC_loopU (A := Unit) [1, 26, 27] (fun _ => [(28, .t (.int .i64 0)), (3, .t (.bool false))]) (fun _ => []) (fun _ => 0) () (by decide) (fun _ => by rfl) ?_ fun Q1 hQ1 _ I1 hI1 => ?_
  · simp (decide := true) (maxSteps := 4000000) only [go_sem, Nat.reduceAdd, Nat.reduceSub, Nat.reduceMul, Nat.reduceDiv, Nat.reduceMod, Nat.reduceLT, Nat.reduceLeDiff, Nat.reduceEqDiff, Nat.reduceBEq, Nat.reduceBNe, Nat.reduceGT, Int.reduceAdd, Int.reduceSub, Int.reduceMul, Int.reduceNeg, Int.reduceLT, Int.reduceLE, Int.reduceEq, Int.reduceNe, Int.reduceBEq, Int.reduceBNe, Int.reduceToNat, Int.reduceGT, Int.reduceGE, ↓reduceIte, decide_true, decide_false, eq_self, Nat.mul_one, Nat.zero_mul, Nat.one_mul, Int.le_refl, Nat.le_refl, Int.cast_ofNat_Int]
  · simp (decide := true) (maxSteps := 4000000) only [go_sem, Nat.reduceAdd, Nat.reduceSub, Nat.reduceMul, Nat.reduceDiv, Nat.reduceMod, Nat.reduceLT, Nat.reduceLeDiff, Nat.reduceEqDiff, Nat.reduceBEq, Nat.reduceBNe, Nat.reduceGT, Int.reduceAdd, Int.reduceSub, Int.reduceMul, Int.reduceNeg, Int.reduceLT, Int.reduceLE, Int.reduceEq, Int.reduceNe, Int.reduceBEq, Int.reduceBNe, Int.reduceToNat, Int.reduceGT, Int.reduceGE, ↓reduceIte, decide_true, decide_false, eq_self, Nat.mul_one, Nat.zero_mul, Nat.one_mul, Int.le_refl, Nat.le_refl, Int.cast_ofNat_Int]
    refine hQ1 _ _ ?_
    simp (decide := true) (maxSteps := 4000000) only [go_sem, Nat.reduceAdd, Nat.reduceSub, Nat.reduceMul, Nat.reduceDiv, Nat.reduceMod, Nat.reduceLT, Nat.reduceLeDiff, Nat.reduceEqDiff, Nat.reduceBEq, Nat.reduceBNe, Nat.reduceGT, Int.reduceAdd, Int.reduceSub, Int.reduceMul, Int.reduceNeg, Int.reduceLT, Int.reduceLE, Int.reduceEq, Int.reduceNe, Int.reduceBEq, Int.reduceBNe, Int.reduceToNat, Int.reduceGT, Int.reduceGE, ↓reduceIte, decide_true, decide_false, eq_self, Nat.mul_one, Nat.zero_mul, Nat.one_mul, Int.le_refl, Nat.le_refl, Int.cast_ofNat_Int]
    first | done | trace_state
/-- Check of a row. -/
theorem sCheckR_c (W : List Int) (hs : srt W) (hl : W.length ≤ 17592186044415) : PCalls Tryd.prog 63 [.agg [gT W, .int .i64 1, .int .i64 1]] (.int .i64 (if latOk W 1 1 then 0 else 20)) := by
  by_cases h0 : W.length = 0
  · have hn : W = [] := List.eq_nil_of_length_eq_zero h0
    subst hn
    exact sCheckNil_c 1 1 rfl rfl
  · rw [gT_ne h0]; exact sCheck_c W false 1 1 hs hl
theorem TopGeared_c {l : List Int} {s : TV} (hs : IsRow ic s l) (hll : l.length ≤ 17592186044415) (r0 r1 : Int) : PCalls Tryd.prog 3 [s, .agg [.int .i64 r0, .int .i64 r1]] (.bool true) := by
  have hSo := tSort_c hs hll
  have hpw := sortTo_pw l l.length (Nat.le_refl _)
  have hln := sortTo_len l l.length (Nat.le_refl _)
  generalize sortTo l l.length = L at *
  have hsr := srt_of hpw
  have hLl : L.length ≤ 17592186044415 := by omega
  have hCh := sCheckR_c L hsr hLl
  have m1 := Int.emod_nonneg r0 (show (1000 : Int) ≠ 0 by decide)
  have m2 := Int.emod_lt_of_pos r0 (show (0 : Int) < 1000 by decide)
  have m3 := Int.emod_nonneg r1 (show (1000 : Int) ≠ 0 by decide)
  have m4 := Int.emod_lt_of_pos r1 (show (0 : Int) < 1000 by decide)
  have d1 : (0 : Int) < 1000 ∧ (1000 : Int) ≤ 9223372036854775807 := by decide
  obtain ⟨p, hp⟩ : ∃ p, 1 + r0 % 1000 = p := ⟨_, rfl⟩
  obtain ⟨q, hq⟩ : ∃ q, 1 + r1 % 1000 = q := ⟨_, rfl⟩
  have w1 : IntKind.i64.wrap (1 + r0 % 1000) = p := by rw [hp]; exact wrap_in (by omega) (by omega)
  have w2 : IntKind.i64.wrap (1 + r1 % 1000) = q := by rw [hq]; exact wrap_in (by omega) (by omega)
  have hp1 : 1 ≤ p ∧ p ≤ 1000 := by omega
  have hq1 : 1 ≤ q ∧ q ≤ 1000 := by omega
  have hTr := Gx.iTrainE_c (st := L) (s := gT L) (gT_row L) hLl p q
  have hip : inB p 1 100000 = true := inB_iff.2 (by omega)
  have hiq : inB q 1 100000 = true := inB_iff.2 (by omega)
  by_cases hst : whOk L
  · have hok := wh_stock.2 hst
    have hL0 : ¬ L.length = 0 := by have := hst.1; omega
    have hgL := gT_ne hL0
    have hCu := sCut_c L false 1 1 p q hsr hst (by omega) (by omega) hp1 hq1
    have htf := train_find hst hp1.1 hq1.1
    have hte : Ix.trainE L p q = (match Ix.trainP L p q with | none => (⟨0, 0, 0, 0⟩, 4) | some t => (t, 0)) := by unfold Ix.trainE; rw [hok, hip, hiq]; rfl
    rw [htf] at hte
    cases hf : (gearsL L.length).find? (cutsB L 1 1 p q) with
    | none =>
      rw [hf] at hCu hte
      simp only [Option.map_none] at hte
      rw [hte] at hTr
      rw [hgL] at hTr hSo
      refine pcalls_by Tryd.mixes (Spec.one_ok txGround_ok (Spec.one_ok (oneP_ok hSo) (Spec.one_ok (oneP_ok hTr) (Spec.one_ok (oneP_ok hCu) Sx.spH_ok)))) (fn := Tryd.f3) Tryd.func3 rfl (by kernel_rfl) (by show 2 ≤ _; decide) ?_
      simp (decide := true) (maxSteps := 4000000) only [go_sem, Nat.reduceAdd, Nat.reduceSub, Nat.reduceMul, Nat.reduceDiv, Nat.reduceMod, Nat.reduceLT, Nat.reduceLeDiff, Nat.reduceEqDiff, Nat.reduceBEq, Nat.reduceBNe, Nat.reduceGT, Int.reduceAdd, Int.reduceSub, Int.reduceMul, Int.reduceNeg, Int.reduceLT, Int.reduceLE, Int.reduceEq, Int.reduceNe, Int.reduceBEq, Int.reduceBNe, Int.reduceToNat, Int.reduceGT, Int.reduceGE, ↓reduceIte, decide_true, decide_false, eq_self, Nat.mul_one, Nat.zero_mul, Nat.one_mul, Int.le_refl, Nat.le_refl, Int.cast_ofNat_Int, Tryd.f3, d1, w1, w2, latT, Ix.Tn.tv, Ix.Tn.cs]
      first | done | trace_state
    | some g =>
      rw [hf] at hCu hte
      simp only [Option.map_some] at hte
      rw [hte] at hTr
      rw [hgL] at hTr hSo
      have hgi := gearsL_ok L.length g (List.mem_of_find?_eq_some hf)
      have hcb := List.find?_some hf
      unfold cutsB at hcb
      rw [decide_eq_true_eq] at hcb
      have hPi := sPitch_c L false true 1 1 hsr hst (by omega) (by omega) hgi
      rw [hcb] at hPi
      have hlm := lowP_mul hp1.1 hq1.1
      generalize lowP p q = lo at *
      obtain ⟨n1, n2⟩ := lo
      simp only at hlm hPi hcb
      have b1 : 0 ≤ n1 * q ∧ n1 * q ≤ 1000000 := by
        have x1 := Int.mul_le_mul (show n1 ≤ 1000 by omega) hq1.2 (by omega) (by omega)
        have x2 := Int.mul_nonneg hlm.2.1.1 (show 0 ≤ q by omega)
        omega
      have w3 : IntKind.i64.wrap (n1 * q) = n1 * q := wrap_in (by omega) (by omega)
      have w4 : IntKind.i64.wrap (n2 * p) = n1 * q := by rw [← hlm.1]; exact w3
      rcases isG_cases hgi with ⟨a, b, rfl, h1, _⟩ | ⟨a, b, c, d, rfl, h1, _⟩
      · have u1 := unIs [a, b]
        have e1 : Ix.tnOf [a, b] = ⟨a, b, -1, -1⟩ := rfl
        rw [e1] at hTr
        refine pcalls_by Tryd.mixes (Spec.one_ok txGround_ok (Spec.one_ok (oneP_ok hSo) (Spec.one_ok (oneP_ok hTr) (Spec.one_ok (oneP_ok hCu) (Spec.one_ok (oneP_ok hPi) Sx.spH_ok))))) (fn := Tryd.f3) Tryd.func3 rfl (by kernel_rfl) (by show 2 ≤ _; decide) ?_
        simp only [ints, List.map_cons, List.map_nil] at u1
        simp (decide := true) (maxSteps := 4000000) only [go_sem, Nat.reduceAdd, Nat.reduceSub, Nat.reduceMul, Nat.reduceDiv, Nat.reduceMod, Nat.reduceLT, Nat.reduceLeDiff, Nat.reduceEqDiff, Nat.reduceBEq, Nat.reduceBNe, Nat.reduceGT, Int.reduceAdd, Int.reduceSub, Int.reduceMul, Int.reduceNeg, Int.reduceLT, Int.reduceLE, Int.reduceEq, Int.reduceNe, Int.reduceBEq, Int.reduceBNe, Int.reduceToNat, Int.reduceGT, Int.reduceGE, ↓reduceIte, decide_true, decide_false, eq_self, Nat.mul_one, Nat.zero_mul, Nat.one_mul, Int.le_refl, Nat.le_refl, Int.cast_ofNat_Int, Tryd.f3, d1, w1, w2, w3, w4, latT, Ix.Tn.tv, Ix.Tn.cs, ints, List.map_cons, List.map_nil, u1, beq_self_eq_true]
        first | done | trace_state
      · have u1 := unIs [a, b, c, d]
        have e1 : Ix.tnOf [a, b, c, d] = ⟨a, b, c, d⟩ := rfl
        have hc0 : c ≥ 0 := h1.2.2.1.1
        rw [e1] at hTr
        refine pcalls_by Tryd.mixes (Spec.one_ok txGround_ok (Spec.one_ok (oneP_ok hSo) (Spec.one_ok (oneP_ok hTr) (Spec.one_ok (oneP_ok hCu) (Spec.one_ok (oneP_ok hPi) Sx.spH_ok))))) (fn := Tryd.f3) Tryd.func3 rfl (by kernel_rfl) (by show 2 ≤ _; decide) ?_
        simp only [ints, List.map_cons, List.map_nil] at u1
        simp (decide := true) (maxSteps := 4000000) only [go_sem, Nat.reduceAdd, Nat.reduceSub, Nat.reduceMul, Nat.reduceDiv, Nat.reduceMod, Nat.reduceLT, Nat.reduceLeDiff, Nat.reduceEqDiff, Nat.reduceBEq, Nat.reduceBNe, Nat.reduceGT, Int.reduceAdd, Int.reduceSub, Int.reduceMul, Int.reduceNeg, Int.reduceLT, Int.reduceLE, Int.reduceEq, Int.reduceNe, Int.reduceBEq, Int.reduceBNe, Int.reduceToNat, Int.reduceGT, Int.reduceGE, ↓reduceIte, decide_true, decide_false, eq_self, Nat.mul_one, Nat.zero_mul, Nat.one_mul, Int.le_refl, Nat.le_refl, Int.cast_ofNat_Int, Tryd.f3, d1, w1, w2, w3, w4, hc0, latT, Ix.Tn.tv, Ix.Tn.cs, ints, List.map_cons, List.map_nil, u1, beq_self_eq_true]
        first | done | trace_state
  · have hok : Ix.stockOk1 L = false := by
      cases h : Ix.stockOk1 L with
      | false => rfl
      | true => exact (hst (wh_stock.1 h)).elim
    have hlo : latOk L 1 1 = false := by
      unfold latOk
      unfold Ix.stockOk1 at hok
      rw [show inB 1 1 1000 = true from rfl]
      simpa using hok
    rw [hlo] at hCh
    have hte : Ix.trainE L p q = (⟨0, 0, 0, 0⟩, 13) := by unfold Ix.trainE; rw [hok]; rfl
    rw [hte] at hTr
    have hCu := sCutBad_c L 1 1 p q hsr hLl hlo (gT L) hCh
    have hpc : pcells (.t (gT L)) = some [.t (gT L)] := by unfold gT; split <;> rfl
    refine pcalls_by Tryd.mixes (Spec.one_ok txGround_ok (Spec.one_ok (oneP_ok hSo) (Spec.one_ok (oneP_ok hTr) (Spec.one_ok (oneP_ok hCu) Sx.spH_ok)))) (fn := Tryd.f3) Tryd.func3 rfl (by kernel_rfl) (by show 2 ≤ _; decide) ?_
    by_cases h0 : L.length = 0
    · have hn : L = [] := List.eq_nil_of_length_eq_zero h0
      subst hn
      simp (decide := true) (maxSteps := 4000000) only [go_sem, Nat.reduceAdd, Nat.reduceSub, Nat.reduceMul, Nat.reduceDiv, Nat.reduceMod, Nat.reduceLT, Nat.reduceLeDiff, Nat.reduceEqDiff, Nat.reduceBEq, Nat.reduceBNe, Nat.reduceGT, Int.reduceAdd, Int.reduceSub, Int.reduceMul, Int.reduceNeg, Int.reduceLT, Int.reduceLE, Int.reduceEq, Int.reduceNe, Int.reduceBEq, Int.reduceBNe, Int.reduceToNat, Int.reduceGT, Int.reduceGE, ↓reduceIte, decide_true, decide_false, eq_self, Nat.mul_one, Nat.zero_mul, Nat.one_mul, Int.le_refl, Nat.le_refl, Int.cast_ofNat_Int, Tryd.f3, d1, w1, w2, gT_nil, Ix.Tn.tv, Ix.Tn.cs]
      first | done | trace_state
    · simp (decide := true) (maxSteps := 4000000) only [go_sem, Nat.reduceAdd, Nat.reduceSub, Nat.reduceMul, Nat.reduceDiv, Nat.reduceMod, Nat.reduceLT, Nat.reduceLeDiff, Nat.reduceEqDiff, Nat.reduceBEq, Nat.reduceBNe, Nat.reduceGT, Int.reduceAdd, Int.reduceSub, Int.reduceMul, Int.reduceNeg, Int.reduceLT, Int.reduceLE, Int.reduceEq, Int.reduceNe, Int.reduceBEq, Int.reduceBNe, Int.reduceToNat, Int.reduceGT, Int.reduceGE, ↓reduceIte, decide_true, decide_false, eq_self, Nat.mul_one, Nat.zero_mul, Nat.one_mul, Int.le_refl, Nat.le_refl, Int.cast_ofNat_Int, Tryd.f3, d1, w1, w2, gT_ne h0, Ix.Tn.tv, Ix.Tn.cs]
      first | done | trace_state
end Go.Proofs.YtlonlnfenbadbaaDoor
