/- What the claim leans on, text 5. -/
import Derived.Test.YtadkjjnnnkfalaaC4
set_option linter.unusedSimpArgs false
set_option linter.unusedVariables false

/- Part Hb. -/
namespace Go.Proofs.Ytadkjjnnnkfalaa.Sx
end Go.Proofs.Ytadkjjnnnkfalaa.Sx
namespace Go.Proofs.Ytadkjjnnnkfalaa.Sx
open Go.RowKit Go.Pm Go.Oc Go.Oh
set_option maxRecDepth 100000
set_option linter.unusedVariables false
set_option maxHeartbeats 1000000

/-- Cells that are trees. -/
@[go_sem] theorem map_ren_t (ids : List Nat) (cs : List TV) : List.map (PV.ren ids) (List.map PV.t cs) = List.map PV.t cs := by rw [List.map_map]; rfl
@[go_sem] theorem map_inv_t (ids : List Nat) (cs : List TV) : List.map (PV.inv ids) (List.map PV.t cs) = List.map PV.t cs := by rw [List.map_map]; rfl
@[go_sem] theorem all_under_t (k : Nat) (cs : List TV) : (List.map PV.t cs).all (PV.under k) = true := by rw [List.all_map, List.all_eq_true]; intro x _; rfl
@[go_sem] theorem cellsW_t (l : List PO) : ∀ cs : List TV, cellsW l (List.map PV.t cs) (List.map PV.t cs) = True
  | [] => by simp [cellsW]
  | c :: cs => by simp [cellsW, cellsW_t l cs, cellW, PV.toT]
@[go_sem] theorem flat_idsG_t (cs : List TV) : List.flatMap idsG (List.map PV.t cs) = [] := by
  induction cs with
  | nil => rfl
  | cons c cs ih => rw [List.map_cons, List.flatMap_cons, ih]; rfl
@[go_sem] theorem flat_idsP_t (cs : List TV) : List.flatMap idsP (List.map PV.t cs) = [] := by
  induction cs with
  | nil => rfl
  | cons c cs ih => rw [List.map_cons, List.flatMap_cons, ih]; rfl
theorem allO_toT : ∀ cs : List TV, allO (List.map PV.toT (List.map PV.t cs)) = some cs
  | [] => rfl
  | c :: cs => by rw [List.map_cons, List.map_cons]; simp only [PV.toT, allO, allO_toT cs]; rfl
theorem allO_thaw (h : Hp) : ∀ cs : List TV, allO (List.map (thawC h) (List.map PV.t cs)) = some cs
  | [] => rfl
  | c :: cs => by rw [List.map_cons, List.map_cons]; simp only [thawC, PV.toT, allO, allO_thaw h cs]; rfl
@[go_sem] theorem allO_thawA (h : Hp) (cs ds : List TV) : allO (List.map (thawC h) (List.map PV.t cs ++ List.map PV.t ds)) = some (cs ++ ds) := by rw [← List.map_append]; exact allO_thaw h _
attribute [go_sem] allO_toT allO_thaw

theorem hIn_c (n lo hi : Int) : PCalls Try.prog 31 [.int .i64 n, .int .i64 lo, .int .i64 hi] (.bool (inB n lo hi)) := by
  refine pcalls_by Try.mixes noSpec_ok (fn := Try.f31) Try.func31 rfl (by kernel_rfl) (by show 3 ≤ _; decide) ?_
  simp (decide := true) (maxSteps := 4000000) only [go_sem, Nat.reduceAdd, Nat.reduceSub, Nat.reduceMul, Nat.reduceDiv, Nat.reduceMod, Nat.reduceLT, Nat.reduceLeDiff, Nat.reduceEqDiff, Nat.reduceBEq, Nat.reduceBNe, Nat.reduceGT, Int.reduceAdd, Int.reduceSub, Int.reduceMul, Int.reduceNeg, Int.reduceLT, Int.reduceLE, Int.reduceEq, Int.reduceNe, Int.reduceBEq, Int.reduceBNe, Int.reduceToNat, Int.reduceGT, Int.reduceGE, ↓reduceIte, decide_true, decide_false, Try.f31, inB, ge_iff_le]
def hgIn : List TV → Option TV
  | [.int .i64 n, .int .i64 a, .int .i64 b] => some (.bool (inB n a b))
  | _ => none
theorem hgIn_ok : ∀ xs r, hgIn xs = some r → PCalls Try.prog 31 xs r := by
  intro xs r h
  unfold hgIn at h
  split at h
  · cases h; exact hIn_c _ _ _
  · cases h
noncomputable def spH1 : Pm.Spec := noSpec.one 31 hgIn
theorem spH1_ok : SpecOk Try.prog spH1 := Spec.one_ok hgIn_ok noSpec_ok
attribute [go_sem] hgIn
@[go_sem] theorem spH1_p (f : FuncId) (xs : List TV) : spH1.p f xs = Pm.Spec.p (noSpec.one 31 hgIn) f xs := rfl
@[go_sem] theorem spH1_h (f : FuncId) (ps : List PV) (hl : List PO) : spH1.h f ps hl = Pm.Spec.h (noSpec.one 31 hgIn) f ps hl := rfl
@[go_sem] theorem spH1_y (Y : Pm.YS) (f : FuncId) (ps : List PV) (hl : List PO) : spH1.y Y f ps hl = Pm.Spec.y (noSpec.one 31 hgIn) Y f ps hl := rfl
@[go_sem] theorem spH1_fz (f : FuncId) : spH1.fz f = Pm.Spec.fz (noSpec.one 31 hgIn) f := rfl
@[go_sem] theorem spH1_fr (f : FuncId) : spH1.fr f = Pm.Spec.fr (noSpec.one 31 hgIn) f := rfl
@[go_sem] theorem spH1_yf (f : FuncId) : spH1.yf f = Pm.Spec.yf (noSpec.one 31 hgIn) f := rfl
@[go_sem] theorem spH1_mu (t : TypeId) : spH1.mu t = Pm.Spec.mu (noSpec.one 31 hgIn) t := rfl
@[go_sem] theorem spH1_nf (t : TypeId) : spH1.nf t = Pm.Spec.nf (noSpec.one 31 hgIn) t := rfl
theorem hMod_c (n by_ : Int) (h : 0 < by_) (h2 : by_ ≤ 9223372036854775807) : PCalls Try.prog 22 [.int .i64 n, .int .i64 by_] (.int .i64 (n % by_)) := by
  refine pcalls_by Try.mixes noSpec_ok (fn := Try.f22) Try.func22 rfl (by kernel_rfl) (by show 2 ≤ _; decide) ?_
  have hne : ¬ by_ = 0 := by omega
  simp (decide := true) (maxSteps := 4000000) only [go_sem, Nat.reduceAdd, Nat.reduceSub, Nat.reduceMul, Nat.reduceDiv, Nat.reduceMod, Nat.reduceLT, Nat.reduceLeDiff, Nat.reduceEqDiff, Nat.reduceBEq, Nat.reduceBNe, Nat.reduceGT, Int.reduceAdd, Int.reduceSub, Int.reduceMul, Int.reduceNeg, Int.reduceLT, Int.reduceLE, Int.reduceEq, Int.reduceNe, Int.reduceBEq, Int.reduceBNe, Int.reduceToNat, Int.reduceGT, Int.reduceGE, ↓reduceIte, decide_true, decide_false, Try.f22, hne]
  have e := Int.tmod_eq_emod (a := n) (b := by_)
  have e1 := Int.emod_nonneg n hne
  have e2 := Int.emod_lt_of_pos n h
  by_cases hn : n.tmod by_ < 0
  · simp (decide := true) (maxSteps := 4000000) only [go_sem, Nat.reduceAdd, Nat.reduceSub, Nat.reduceMul, Nat.reduceDiv, Nat.reduceMod, Nat.reduceLT, Nat.reduceLeDiff, Nat.reduceEqDiff, Nat.reduceBEq, Nat.reduceBNe, Nat.reduceGT, Int.reduceAdd, Int.reduceSub, Int.reduceMul, Int.reduceNeg, Int.reduceLT, Int.reduceLE, Int.reduceEq, Int.reduceNe, Int.reduceBEq, Int.reduceBNe, Int.reduceToNat, Int.reduceGT, Int.reduceGE, ↓reduceIte, decide_true, decide_false, hn]
    have e3 : n.tmod by_ + by_ = n % by_ := by
      rw [e] at hn ⊢
      split at hn
      · omega
      · rename_i hc
        rw [if_neg hc]
        have : (by_.natAbs : Int) = by_ := by omega
        omega
    rw [e3, wrap_in (by omega) (by omega)]
  · simp (decide := true) (maxSteps := 4000000) only [go_sem, Nat.reduceAdd, Nat.reduceSub, Nat.reduceMul, Nat.reduceDiv, Nat.reduceMod, Nat.reduceLT, Nat.reduceLeDiff, Nat.reduceEqDiff, Nat.reduceBEq, Nat.reduceBNe, Nat.reduceGT, Int.reduceAdd, Int.reduceSub, Int.reduceMul, Int.reduceNeg, Int.reduceLT, Int.reduceLE, Int.reduceEq, Int.reduceNe, Int.reduceBEq, Int.reduceBNe, Int.reduceToNat, Int.reduceGT, Int.reduceGE, ↓reduceIte, decide_true, decide_false, hn]
    rw [e] at hn ⊢
    split at hn
    · rename_i hc; rw [if_pos hc]; simp
    · rename_i hc
      have : (by_.natAbs : Int) = by_ := by omega
      omega
def hgMod : List TV → Option TV
  | [.int .i64 n, .int .i64 b] => if 0 < b ∧ b ≤ 9223372036854775807 then some (.int .i64 (n % b)) else none
  | _ => none
theorem hgMod_ok : ∀ xs r, hgMod xs = some r → PCalls Try.prog 22 xs r := by
  intro xs r h
  unfold hgMod at h
  split at h
  · split at h
    · rename_i hc; cases h; exact hMod_c _ _ hc.1 hc.2
    · cases h
  · cases h
noncomputable def spH2 : Pm.Spec := spH1.one 22 hgMod
theorem spH2_ok : SpecOk Try.prog spH2 := Spec.one_ok hgMod_ok spH1_ok
attribute [go_sem] hgMod
@[go_sem] theorem spH2_p (f : FuncId) (xs : List TV) : spH2.p f xs = Pm.Spec.p (spH1.one 22 hgMod) f xs := rfl
@[go_sem] theorem spH2_h (f : FuncId) (ps : List PV) (hl : List PO) : spH2.h f ps hl = Pm.Spec.h (spH1.one 22 hgMod) f ps hl := rfl
@[go_sem] theorem spH2_y (Y : Pm.YS) (f : FuncId) (ps : List PV) (hl : List PO) : spH2.y Y f ps hl = Pm.Spec.y (spH1.one 22 hgMod) Y f ps hl := rfl
@[go_sem] theorem spH2_fz (f : FuncId) : spH2.fz f = Pm.Spec.fz (spH1.one 22 hgMod) f := rfl
@[go_sem] theorem spH2_fr (f : FuncId) : spH2.fr f = Pm.Spec.fr (spH1.one 22 hgMod) f := rfl
@[go_sem] theorem spH2_yf (f : FuncId) : spH2.yf f = Pm.Spec.yf (spH1.one 22 hgMod) f := rfl
@[go_sem] theorem spH2_mu (t : TypeId) : spH2.mu t = Pm.Spec.mu (spH1.one 22 hgMod) t := rfl
@[go_sem] theorem spH2_nf (t : TypeId) : spH2.nf t = Pm.Spec.nf (spH1.one 22 hgMod) t := rfl
noncomputable def spH3 : Pm.Spec := spH2
theorem spH3_ok : SpecOk Try.prog spH3 := spH2_ok
@[go_sem] theorem spH3_p (f : FuncId) (xs : List TV) : spH3.p f xs = Pm.Spec.p (spH2) f xs := rfl
@[go_sem] theorem spH3_h (f : FuncId) (ps : List PV) (hl : List PO) : spH3.h f ps hl = Pm.Spec.h (spH2) f ps hl := rfl
@[go_sem] theorem spH3_y (Y : Pm.YS) (f : FuncId) (ps : List PV) (hl : List PO) : spH3.y Y f ps hl = Pm.Spec.y (spH2) Y f ps hl := rfl
@[go_sem] theorem spH3_fz (f : FuncId) : spH3.fz f = Pm.Spec.fz (spH2) f := rfl
@[go_sem] theorem spH3_fr (f : FuncId) : spH3.fr f = Pm.Spec.fr (spH2) f := rfl
@[go_sem] theorem spH3_yf (f : FuncId) : spH3.yf f = Pm.Spec.yf (spH2) f := rfl
@[go_sem] theorem spH3_mu (t : TypeId) : spH3.mu t = Pm.Spec.mu (spH2) t := rfl
@[go_sem] theorem spH3_nf (t : TypeId) : spH3.nf t = Pm.Spec.nf (spH2) t := rfl
noncomputable def spH4 : Pm.Spec := spH3
theorem spH4_ok : SpecOk Try.prog spH4 := spH3_ok
@[go_sem] theorem spH4_p (f : FuncId) (xs : List TV) : spH4.p f xs = Pm.Spec.p (spH3) f xs := rfl
@[go_sem] theorem spH4_h (f : FuncId) (ps : List PV) (hl : List PO) : spH4.h f ps hl = Pm.Spec.h (spH3) f ps hl := rfl
@[go_sem] theorem spH4_y (Y : Pm.YS) (f : FuncId) (ps : List PV) (hl : List PO) : spH4.y Y f ps hl = Pm.Spec.y (spH3) Y f ps hl := rfl
@[go_sem] theorem spH4_fz (f : FuncId) : spH4.fz f = Pm.Spec.fz (spH3) f := rfl
@[go_sem] theorem spH4_fr (f : FuncId) : spH4.fr f = Pm.Spec.fr (spH3) f := rfl
@[go_sem] theorem spH4_yf (f : FuncId) : spH4.yf f = Pm.Spec.yf (spH3) f := rfl
@[go_sem] theorem spH4_mu (t : TypeId) : spH4.mu t = Pm.Spec.mu (spH3) t := rfl
@[go_sem] theorem spH4_nf (t : TypeId) : spH4.nf t = Pm.Spec.nf (spH3) t := rfl
theorem hHolds_c (s : Span) (n : Int) : PCalls Try.prog 36 [s.t, .int .i64 n] (.bool (inB n s.lo s.hi)) := by
  refine pcalls_by Try.mixes spH4_ok (fn := Try.f36) Try.func36 rfl (by kernel_rfl) (by show 2 ≤ _; decide) ?_
  simp (decide := true) (maxSteps := 4000000) only [go_sem, Nat.reduceAdd, Nat.reduceSub, Nat.reduceMul, Nat.reduceDiv, Nat.reduceMod, Nat.reduceLT, Nat.reduceLeDiff, Nat.reduceEqDiff, Nat.reduceBEq, Nat.reduceBNe, Nat.reduceGT, Int.reduceAdd, Int.reduceSub, Int.reduceMul, Int.reduceNeg, Int.reduceLT, Int.reduceLE, Int.reduceEq, Int.reduceNe, Int.reduceBEq, Int.reduceBNe, Int.reduceToNat, Int.reduceGT, Int.reduceGE, ↓reduceIte, decide_true, decide_false, Try.f36, Span.t, Span.cs]
def hgHolds : List TV → Option TV
  | [.agg [.int .i64 x, .int .i64 y], .int .i64 n] => some (.bool (inB n x y))
  | _ => none
theorem hgHolds_ok : ∀ xs r, hgHolds xs = some r → PCalls Try.prog 36 xs r := by
  intro xs r h
  unfold hgHolds at h
  split at h
  · cases h; exact hHolds_c ⟨_, _⟩ _
  · cases h
noncomputable def spH5 : Pm.Spec := spH4.one 36 hgHolds
theorem spH5_ok : SpecOk Try.prog spH5 := Spec.one_ok hgHolds_ok spH4_ok
attribute [go_sem] hgHolds
@[go_sem] theorem spH5_p (f : FuncId) (xs : List TV) : spH5.p f xs = Pm.Spec.p (spH4.one 36 hgHolds) f xs := rfl
@[go_sem] theorem spH5_h (f : FuncId) (ps : List PV) (hl : List PO) : spH5.h f ps hl = Pm.Spec.h (spH4.one 36 hgHolds) f ps hl := rfl
@[go_sem] theorem spH5_y (Y : Pm.YS) (f : FuncId) (ps : List PV) (hl : List PO) : spH5.y Y f ps hl = Pm.Spec.y (spH4.one 36 hgHolds) Y f ps hl := rfl
@[go_sem] theorem spH5_fz (f : FuncId) : spH5.fz f = Pm.Spec.fz (spH4.one 36 hgHolds) f := rfl
@[go_sem] theorem spH5_fr (f : FuncId) : spH5.fr f = Pm.Spec.fr (spH4.one 36 hgHolds) f := rfl
@[go_sem] theorem spH5_yf (f : FuncId) : spH5.yf f = Pm.Spec.yf (spH4.one 36 hgHolds) f := rfl
@[go_sem] theorem spH5_mu (t : TypeId) : spH5.mu t = Pm.Spec.mu (spH4.one 36 hgHolds) t := rfl
@[go_sem] theorem spH5_nf (t : TypeId) : spH5.nf t = Pm.Spec.nf (spH4.one 36 hgHolds) t := rfl
theorem hWider_c (s : Span) (n : Int) (b : Bool) : PCalls Try.prog 23 [s.t, .int .i64 n, .bool b] (widerS s n b).t := by
  refine pcalls_by Try.mixes noSpec_ok (fn := Try.f23) Try.func23 rfl (by kernel_rfl) (by show 3 ≤ _; decide) ?_
  cases b <;> simp (decide := true) (maxSteps := 4000000) only [go_sem, Nat.reduceAdd, Nat.reduceSub, Nat.reduceMul, Nat.reduceDiv, Nat.reduceMod, Nat.reduceLT, Nat.reduceLeDiff, Nat.reduceEqDiff, Nat.reduceBEq, Nat.reduceBNe, Nat.reduceGT, Int.reduceAdd, Int.reduceSub, Int.reduceMul, Int.reduceNeg, Int.reduceLT, Int.reduceLE, Int.reduceEq, Int.reduceNe, Int.reduceBEq, Int.reduceBNe, Int.reduceToNat, Int.reduceGT, Int.reduceGE, ↓reduceIte, decide_true, decide_false, Try.f23, Span.t, Span.cs, widerS]
def hgWider : List TV → Option TV
  | [.agg [.int .i64 x, .int .i64 y], .int .i64 n, .bool b] => some (widerS ⟨x, y⟩ n b).t
  | _ => none
theorem hgWider_ok : ∀ xs r, hgWider xs = some r → PCalls Try.prog 23 xs r := by
  intro xs r h
  unfold hgWider at h
  split at h
  · cases h; exact hWider_c ⟨_, _⟩ _ _
  · cases h
noncomputable def spH6 : Pm.Spec := spH5.one 23 hgWider
theorem spH6_ok : SpecOk Try.prog spH6 := Spec.one_ok hgWider_ok spH5_ok
attribute [go_sem] hgWider
@[go_sem] theorem spH6_p (f : FuncId) (xs : List TV) : spH6.p f xs = Pm.Spec.p (spH5.one 23 hgWider) f xs := rfl
@[go_sem] theorem spH6_h (f : FuncId) (ps : List PV) (hl : List PO) : spH6.h f ps hl = Pm.Spec.h (spH5.one 23 hgWider) f ps hl := rfl
@[go_sem] theorem spH6_y (Y : Pm.YS) (f : FuncId) (ps : List PV) (hl : List PO) : spH6.y Y f ps hl = Pm.Spec.y (spH5.one 23 hgWider) Y f ps hl := rfl
@[go_sem] theorem spH6_fz (f : FuncId) : spH6.fz f = Pm.Spec.fz (spH5.one 23 hgWider) f := rfl
@[go_sem] theorem spH6_fr (f : FuncId) : spH6.fr f = Pm.Spec.fr (spH5.one 23 hgWider) f := rfl
@[go_sem] theorem spH6_yf (f : FuncId) : spH6.yf f = Pm.Spec.yf (spH5.one 23 hgWider) f := rfl
@[go_sem] theorem spH6_mu (t : TypeId) : spH6.mu t = Pm.Spec.mu (spH5.one 23 hgWider) t := rfl
@[go_sem] theorem spH6_nf (t : TypeId) : spH6.nf t = Pm.Spec.nf (spH5.one 23 hgWider) t := rfl
/-- Numbers whose sums and differences fit. -/
def hMid (n : Int) : Prop := -4000000000000000000 ≤ n ∧ n ≤ 4000000000000000000
theorem htdiv_floor {a b : Int} (h : 0 < b) : (a - a % b).tdiv b = a / b := by
  have h1 : a - a % b = b * (a / b) := by have := Int.mul_ediv_add_emod a b; omega
  rw [h1, Int.mul_tdiv_cancel_left _ (by omega)]
theorem hdiv_mid {a b : Int} (ha : hMid a) (h : 0 < b) : hMid (a / b) ∨ False := by
  refine .inl ⟨?_, ?_⟩
  · have := Int.ediv_le_ediv h ha.1
    rcases Int.lt_or_le a 0 with h0 | h0
    · have h2 : a ≤ a / b := by
        rw [Int.le_ediv_iff_mul_le h]
        have : a * b ≤ a * 1 := Int.mul_le_mul_of_nonpos_left (by omega) (by omega)
        omega
      have := ha.1; omega
    · have := Int.ediv_nonneg h0 (by omega : 0 ≤ b); omega
  · rcases Int.lt_or_le a 0 with h0 | h0
    · have : a / b < 0 := Int.ediv_neg_of_neg_of_pos h0 h
      omega
    · have := Int.ediv_le_self b h0; have := ha.2; omega
theorem hDown_c (a b : Int) (ha : hMid a) (hb : 0 < b) (hb2 : hMid b) : PCalls Try.prog 44 [.int .i64 a, .int .i64 b] (.int .i64 (a / b)) := by
  refine pcalls_by Try.mixes spH6_ok (fn := Try.f44) Try.func44 rfl (by kernel_rfl) (by show 2 ≤ _; decide) ?_
  have hne : ¬ b = 0 := by omega
  have e1 := Int.emod_nonneg a hne
  have e2 := Int.emod_lt_of_pos a hb
  have hbd : b ≤ 9223372036854775807 := by have := hb2.2; omega
  have hd := (hdiv_mid ha hb).resolve_right id
  simp (decide := true) (maxSteps := 4000000) only [go_sem, Nat.reduceAdd, Nat.reduceSub, Nat.reduceMul, Nat.reduceDiv, Nat.reduceMod, Nat.reduceLT, Nat.reduceLeDiff, Nat.reduceEqDiff, Nat.reduceBEq, Nat.reduceBNe, Nat.reduceGT, Int.reduceAdd, Int.reduceSub, Int.reduceMul, Int.reduceNeg, Int.reduceLT, Int.reduceLE, Int.reduceEq, Int.reduceNe, Int.reduceBEq, Int.reduceBNe, Int.reduceToNat, Int.reduceGT, Int.reduceGE, ↓reduceIte, decide_true, decide_false, Try.f44, hb, hbd, hne]
  rw [wrap_in (n := a - a % b) (by have := ha.1; have := hb2.2; omega) (by have := ha.2; omega), htdiv_floor hb, wrap_in (by have := hd.1; omega) (by have := hd.2; omega)]
def hgDown : List TV → Option TV
  | [.int .i64 a, .int .i64 b] => if (-4000000000000000000 ≤ a ∧ a ≤ 4000000000000000000) ∧ 0 < b ∧ b ≤ 4000000000000000000 then some (.int .i64 (a / b)) else none
  | _ => none
theorem hgDown_ok : ∀ xs r, hgDown xs = some r → PCalls Try.prog 44 xs r := by
  intro xs r h
  unfold hgDown at h
  split at h
  · split at h
    · rename_i hc; cases h; exact hDown_c _ _ hc.1 hc.2.1 ⟨by omega, hc.2.2⟩
    · cases h
  · cases h
noncomputable def spH7 : Pm.Spec := spH6.one 44 hgDown
theorem spH7_ok : SpecOk Try.prog spH7 := Spec.one_ok hgDown_ok spH6_ok
attribute [go_sem] hgDown
@[go_sem] theorem spH7_p (f : FuncId) (xs : List TV) : spH7.p f xs = Pm.Spec.p (spH6.one 44 hgDown) f xs := rfl
@[go_sem] theorem spH7_h (f : FuncId) (ps : List PV) (hl : List PO) : spH7.h f ps hl = Pm.Spec.h (spH6.one 44 hgDown) f ps hl := rfl
@[go_sem] theorem spH7_y (Y : Pm.YS) (f : FuncId) (ps : List PV) (hl : List PO) : spH7.y Y f ps hl = Pm.Spec.y (spH6.one 44 hgDown) Y f ps hl := rfl
@[go_sem] theorem spH7_fz (f : FuncId) : spH7.fz f = Pm.Spec.fz (spH6.one 44 hgDown) f := rfl
@[go_sem] theorem spH7_fr (f : FuncId) : spH7.fr f = Pm.Spec.fr (spH6.one 44 hgDown) f := rfl
@[go_sem] theorem spH7_yf (f : FuncId) : spH7.yf f = Pm.Spec.yf (spH6.one 44 hgDown) f := rfl
@[go_sem] theorem spH7_mu (t : TypeId) : spH7.mu t = Pm.Spec.mu (spH6.one 44 hgDown) t := rfl
@[go_sem] theorem spH7_nf (t : TypeId) : spH7.nf t = Pm.Spec.nf (spH6.one 44 hgDown) t := rfl
theorem hUp_c (a b : Int) (ha : hMid a) (hb : 0 < b) (hb2 : hMid b) : PCalls Try.prog 42 [.int .i64 a, .int .i64 b] (.int .i64 (-((-a) / b))) := by
  refine pcalls_by Try.mixes spH7_ok (fn := Try.f42) Try.func42 rfl (by kernel_rfl) (by show 2 ≤ _; decide) ?_
  have hna : IntKind.i64.wrap (0 - a) = -a := by rw [wrap_in (by have := ha.2; omega) (by have := ha.1; omega)]; omega
  have hm : hMid (-a) := ⟨by have := ha.2; omega, by have := ha.1; omega⟩
  have hd := (hdiv_mid hm hb).resolve_right id
  have hc : ((-4000000000000000000 ≤ -a ∧ -a ≤ 4000000000000000000) ∧ 0 < b ∧ b ≤ 4000000000000000000) := ⟨hm, hb, hb2.2⟩
  simp (decide := true) (maxSteps := 4000000) only [go_sem, Nat.reduceAdd, Nat.reduceSub, Nat.reduceMul, Nat.reduceDiv, Nat.reduceMod, Nat.reduceLT, Nat.reduceLeDiff, Nat.reduceEqDiff, Nat.reduceBEq, Nat.reduceBNe, Nat.reduceGT, Int.reduceAdd, Int.reduceSub, Int.reduceMul, Int.reduceNeg, Int.reduceLT, Int.reduceLE, Int.reduceEq, Int.reduceNe, Int.reduceBEq, Int.reduceBNe, Int.reduceToNat, Int.reduceGT, Int.reduceGE, ↓reduceIte, decide_true, decide_false, Try.f42, hna, if_pos hc]
  rw [wrap_in (by have := hd.2; omega) (by have := hd.1; omega)]; omega
def hgUp : List TV → Option TV
  | [.int .i64 a, .int .i64 b] => if (-4000000000000000000 ≤ a ∧ a ≤ 4000000000000000000) ∧ 0 < b ∧ b ≤ 4000000000000000000 then some (.int .i64 (-((-a) / b))) else none
  | _ => none
theorem hgUp_ok : ∀ xs r, hgUp xs = some r → PCalls Try.prog 42 xs r := by
  intro xs r h
  unfold hgUp at h
  split at h
  · split at h
    · rename_i hc; cases h; exact hUp_c _ _ hc.1 hc.2.1 ⟨by omega, hc.2.2⟩
    · cases h
  · cases h
noncomputable def spH8 : Pm.Spec := spH7.one 42 hgUp
theorem spH8_ok : SpecOk Try.prog spH8 := Spec.one_ok hgUp_ok spH7_ok
attribute [go_sem] hgUp
@[go_sem] theorem spH8_p (f : FuncId) (xs : List TV) : spH8.p f xs = Pm.Spec.p (spH7.one 42 hgUp) f xs := rfl
@[go_sem] theorem spH8_h (f : FuncId) (ps : List PV) (hl : List PO) : spH8.h f ps hl = Pm.Spec.h (spH7.one 42 hgUp) f ps hl := rfl
@[go_sem] theorem spH8_y (Y : Pm.YS) (f : FuncId) (ps : List PV) (hl : List PO) : spH8.y Y f ps hl = Pm.Spec.y (spH7.one 42 hgUp) Y f ps hl := rfl
@[go_sem] theorem spH8_fz (f : FuncId) : spH8.fz f = Pm.Spec.fz (spH7.one 42 hgUp) f := rfl
@[go_sem] theorem spH8_fr (f : FuncId) : spH8.fr f = Pm.Spec.fr (spH7.one 42 hgUp) f := rfl
@[go_sem] theorem spH8_yf (f : FuncId) : spH8.yf f = Pm.Spec.yf (spH7.one 42 hgUp) f := rfl
@[go_sem] theorem spH8_mu (t : TypeId) : spH8.mu t = Pm.Spec.mu (spH7.one 42 hgUp) t := rfl
@[go_sem] theorem spH8_nf (t : TypeId) : spH8.nf t = Pm.Spec.nf (spH7.one 42 hgUp) t := rfl
theorem hChosen_c (lo hi n : Int) (h1 : In64 lo) (h2 : In64 hi) : PCalls Try.prog 25 [.int .i64 lo, .int .i64 hi, .int .i64 n] (.int .i64 (chosen lo hi n)) := by
  refine pcalls_by Try.mixes spH8_ok (fn := Try.f25) Try.func25 rfl (by kernel_rfl) (by show 3 ≤ _; decide) ?_
  obtain ⟨a1, a2⟩ := h1
  obtain ⟨b1, b2⟩ := h2
  unfold chosen
  by_cases hge : lo ≥ hi
  · simp (decide := true) (maxSteps := 4000000) only [go_sem, Nat.reduceAdd, Nat.reduceSub, Nat.reduceMul, Nat.reduceDiv, Nat.reduceMod, Nat.reduceLT, Nat.reduceLeDiff, Nat.reduceEqDiff, Nat.reduceBEq, Nat.reduceBNe, Nat.reduceGT, Int.reduceAdd, Int.reduceSub, Int.reduceMul, Int.reduceNeg, Int.reduceLT, Int.reduceLE, Int.reduceEq, Int.reduceNe, Int.reduceBEq, Int.reduceBNe, Int.reduceToNat, Int.reduceGT, Int.reduceGE, ↓reduceIte, decide_true, decide_false, Try.f25, hge]
  · by_cases hbig : 9223372036854775807 < hi - lo + 1
    · have e : IntKind.i64.wrap (IntKind.i64.wrap (hi - lo) + 1) < 1 := by simp only [IntKind.wrap_i64]; omega
      simp (decide := true) (maxSteps := 4000000) only [go_sem, Nat.reduceAdd, Nat.reduceSub, Nat.reduceMul, Nat.reduceDiv, Nat.reduceMod, Nat.reduceLT, Nat.reduceLeDiff, Nat.reduceEqDiff, Nat.reduceBEq, Nat.reduceBNe, Nat.reduceGT, Int.reduceAdd, Int.reduceSub, Int.reduceMul, Int.reduceNeg, Int.reduceLT, Int.reduceLE, Int.reduceEq, Int.reduceNe, Int.reduceBEq, Int.reduceBNe, Int.reduceToNat, Int.reduceGT, Int.reduceGE, ↓reduceIte, decide_true, decide_false, Try.f25, hge, e, hbig]
    · have e : IntKind.i64.wrap (IntKind.i64.wrap (hi - lo) + 1) = hi - lo + 1 := by rw [wrap_in (n := hi - lo) (by omega) (by omega), wrap_in (by omega) (by omega)]
      have e2 : ¬ hi - lo + 1 < 1 := by omega
      have e3 : 0 < hi - lo + 1 ∧ hi - lo + 1 ≤ 9223372036854775807 := by omega
      have m1 := Int.emod_nonneg n (show hi - lo + 1 ≠ 0 by omega)
      have m2 := Int.emod_lt_of_pos n (show 0 < hi - lo + 1 by omega)
      simp (decide := true) (maxSteps := 4000000) only [go_sem, Nat.reduceAdd, Nat.reduceSub, Nat.reduceMul, Nat.reduceDiv, Nat.reduceMod, Nat.reduceLT, Nat.reduceLeDiff, Nat.reduceEqDiff, Nat.reduceBEq, Nat.reduceBNe, Nat.reduceGT, Int.reduceAdd, Int.reduceSub, Int.reduceMul, Int.reduceNeg, Int.reduceLT, Int.reduceLE, Int.reduceEq, Int.reduceNe, Int.reduceBEq, Int.reduceBNe, Int.reduceToNat, Int.reduceGT, Int.reduceGE, ↓reduceIte, decide_true, decide_false, Try.f25, hge, hbig, e, e2, if_pos e3]
      rw [wrap_in (by omega) (by omega)]
def hgChosen : List TV → Option TV
  | [.int .i64 a, .int .i64 b, .int .i64 n] => if (-9223372036854775808 ≤ a ∧ a ≤ 9223372036854775807) ∧ -9223372036854775808 ≤ b ∧ b ≤ 9223372036854775807 then some (.int .i64 (chosen a b n)) else none
  | _ => none
theorem hgChosen_ok : ∀ xs r, hgChosen xs = some r → PCalls Try.prog 25 xs r := by
  intro xs r h
  unfold hgChosen at h
  split at h
  · split at h
    · rename_i hc; cases h; exact hChosen_c _ _ _ hc.1 hc.2
    · cases h
  · cases h
noncomputable def spH9 : Pm.Spec := spH8.one 25 hgChosen
theorem spH9_ok : SpecOk Try.prog spH9 := Spec.one_ok hgChosen_ok spH8_ok
attribute [go_sem] hgChosen
@[go_sem] theorem spH9_p (f : FuncId) (xs : List TV) : spH9.p f xs = Pm.Spec.p (spH8.one 25 hgChosen) f xs := rfl
@[go_sem] theorem spH9_h (f : FuncId) (ps : List PV) (hl : List PO) : spH9.h f ps hl = Pm.Spec.h (spH8.one 25 hgChosen) f ps hl := rfl
@[go_sem] theorem spH9_y (Y : Pm.YS) (f : FuncId) (ps : List PV) (hl : List PO) : spH9.y Y f ps hl = Pm.Spec.y (spH8.one 25 hgChosen) Y f ps hl := rfl
@[go_sem] theorem spH9_fz (f : FuncId) : spH9.fz f = Pm.Spec.fz (spH8.one 25 hgChosen) f := rfl
@[go_sem] theorem spH9_fr (f : FuncId) : spH9.fr f = Pm.Spec.fr (spH8.one 25 hgChosen) f := rfl
@[go_sem] theorem spH9_yf (f : FuncId) : spH9.yf f = Pm.Spec.yf (spH8.one 25 hgChosen) f := rfl
@[go_sem] theorem spH9_mu (t : TypeId) : spH9.mu t = Pm.Spec.mu (spH8.one 25 hgChosen) t := rfl
@[go_sem] theorem spH9_nf (t : TypeId) : spH9.nf t = Pm.Spec.nf (spH8.one 25 hgChosen) t := rfl
noncomputable def spH10 : Pm.Spec := spH9
theorem spH10_ok : SpecOk Try.prog spH10 := spH9_ok
@[go_sem] theorem spH10_p (f : FuncId) (xs : List TV) : spH10.p f xs = Pm.Spec.p (spH9) f xs := rfl
@[go_sem] theorem spH10_h (f : FuncId) (ps : List PV) (hl : List PO) : spH10.h f ps hl = Pm.Spec.h (spH9) f ps hl := rfl
@[go_sem] theorem spH10_y (Y : Pm.YS) (f : FuncId) (ps : List PV) (hl : List PO) : spH10.y Y f ps hl = Pm.Spec.y (spH9) Y f ps hl := rfl
@[go_sem] theorem spH10_fz (f : FuncId) : spH10.fz f = Pm.Spec.fz (spH9) f := rfl
@[go_sem] theorem spH10_fr (f : FuncId) : spH10.fr f = Pm.Spec.fr (spH9) f := rfl
@[go_sem] theorem spH10_yf (f : FuncId) : spH10.yf f = Pm.Spec.yf (spH9) f := rfl
@[go_sem] theorem spH10_mu (t : TypeId) : spH10.mu t = Pm.Spec.mu (spH9) t := rfl
@[go_sem] theorem spH10_nf (t : TypeId) : spH10.nf t = Pm.Spec.nf (spH9) t := rfl
theorem hSame_c {a b : List Int} {s t : TV} (hs : IsRow ic s a) (ht : IsRow ic t b) (ha : a.length ≤ 9223372036854775806) : PCalls Try.prog 29 [s, t] (.bool (decide (a = b))) := by
  refine pcalls_by Try.mixes noSpec_ok (fn := Try.f29) Try.func29 rfl (by kernel_rfl) (by show 2 ≤ _; decide) ?_
  by_cases hl : a.length = b.length
  · by_cases h0 : a.length = 0
    · have ea : a = [] := List.length_eq_zero_iff.1 h0
      have eb : b = [] := List.length_eq_zero_iff.1 (by omega)
      subst ea; subst eb
      rcases hs with ⟨rfl, _⟩ | ⟨f1, rfl⟩ <;> rcases ht with ⟨rfl, _⟩ | ⟨f2, rfl⟩
      all_goals
        simp (decide := true) (maxSteps := 4000000) only [go_sem, Nat.reduceAdd, Nat.reduceSub, Nat.reduceMul, Nat.reduceDiv, Nat.reduceMod, Nat.reduceLT, Nat.reduceLeDiff, Nat.reduceEqDiff, Nat.reduceBEq, Nat.reduceBNe, Nat.reduceGT, Int.reduceAdd, Int.reduceSub, Int.reduceMul, Int.reduceNeg, Int.reduceLT, Int.reduceLE, Int.reduceEq, Int.reduceNe, Int.reduceBEq, Int.reduceBNe, Int.reduceToNat, Int.reduceGT, Int.reduceGE, ↓reduceIte, decide_true, decide_false, eq_self, Nat.mul_one, Nat.zero_mul, Nat.one_mul, Int.le_refl, Nat.le_refl, Int.cast_ofNat_Int, Try.f29, List.length_nil, bne_self_eq_false]
        refine pwpC_loopU (A := Unit) [0, 1] (fun _ => [(5, .t (.int .i64 0))]) (fun _ => []) (fun _ => 0) () (by decide) (fun _ => by rfl) ?_ fun Q1 hQ1 _ I1 hI1 => ?_
        · simp (decide := true) (maxSteps := 4000000) only [go_sem, Nat.reduceAdd, Nat.reduceSub, Nat.reduceMul, Nat.reduceDiv, Nat.reduceMod, Nat.reduceLT, Nat.reduceLeDiff, Nat.reduceEqDiff, Nat.reduceBEq, Nat.reduceBNe, Nat.reduceGT, Int.reduceAdd, Int.reduceSub, Int.reduceMul, Int.reduceNeg, Int.reduceLT, Int.reduceLE, Int.reduceEq, Int.reduceNe, Int.reduceBEq, Int.reduceBNe, Int.reduceToNat, Int.reduceGT, Int.reduceGE, ↓reduceIte, decide_true, decide_false, eq_self, Nat.mul_one, Nat.zero_mul, Nat.one_mul, Int.le_refl, Nat.le_refl, Int.cast_ofNat_Int]
        · simp (decide := true) (maxSteps := 4000000) only [go_sem, Nat.reduceAdd, Nat.reduceSub, Nat.reduceMul, Nat.reduceDiv, Nat.reduceMod, Nat.reduceLT, Nat.reduceLeDiff, Nat.reduceEqDiff, Nat.reduceBEq, Nat.reduceBNe, Nat.reduceGT, Int.reduceAdd, Int.reduceSub, Int.reduceMul, Int.reduceNeg, Int.reduceLT, Int.reduceLE, Int.reduceEq, Int.reduceNe, Int.reduceBEq, Int.reduceBNe, Int.reduceToNat, Int.reduceGT, Int.reduceGE, ↓reduceIte, decide_true, decide_false, eq_self, Nat.mul_one, Nat.zero_mul, Nat.one_mul, Int.le_refl, Nat.le_refl, Int.cast_ofNat_Int, List.length_nil]
          refine hQ1 _ _ ?_
          simp (decide := true) (maxSteps := 4000000) only [go_sem, Nat.reduceAdd, Nat.reduceSub, Nat.reduceMul, Nat.reduceDiv, Nat.reduceMod, Nat.reduceLT, Nat.reduceLeDiff, Nat.reduceEqDiff, Nat.reduceBEq, Nat.reduceBNe, Nat.reduceGT, Int.reduceAdd, Int.reduceSub, Int.reduceMul, Int.reduceNeg, Int.reduceLT, Int.reduceLE, Int.reduceEq, Int.reduceNe, Int.reduceBEq, Int.reduceBNe, Int.reduceToNat, Int.reduceGT, Int.reduceGE, ↓reduceIte, decide_true, decide_false, eq_self, Nat.mul_one, Nat.zero_mul, Nat.one_mul, Int.le_refl, Nat.le_refl, Int.cast_ofNat_Int]
    · obtain ⟨f1, rfl⟩ := hs.ne (by omega)
      obtain ⟨f2, rfl⟩ := ht.ne (by omega)
      rw [ic_ints, ic_ints]
      have hl' : ((a.length : Int) != (b.length : Int)) = false := bne_int_f (by omega)
      simp (decide := true) (maxSteps := 4000000) only [go_sem, Nat.reduceAdd, Nat.reduceSub, Nat.reduceMul, Nat.reduceDiv, Nat.reduceMod, Nat.reduceLT, Nat.reduceLeDiff, Nat.reduceEqDiff, Nat.reduceBEq, Nat.reduceBNe, Nat.reduceGT, Int.reduceAdd, Int.reduceSub, Int.reduceMul, Int.reduceNeg, Int.reduceLT, Int.reduceLE, Int.reduceEq, Int.reduceNe, Int.reduceBEq, Int.reduceBNe, Int.reduceToNat, Int.reduceGT, Int.reduceGE, ↓reduceIte, decide_true, decide_false, eq_self, Nat.mul_one, Nat.zero_mul, Nat.one_mul, Int.le_refl, Nat.le_refl, Int.cast_ofNat_Int, Try.f29, hl']
      refine pwpC_loopU (A := { k : Nat // a.take k = b.take k ∧ k ≤ a.length }) [0, 1] (fun k => [(5, .t (.int .i64 k.1))]) (fun k => []) (fun k => a.length - k.1) ⟨0, by simp⟩ (by decide) (fun _ => by rfl) ?_ fun Q1 hQ1 ⟨k, hk, hka⟩ I1 hI1 => ?_
      · simp (decide := true) (maxSteps := 4000000) only [go_sem, Nat.reduceAdd, Nat.reduceSub, Nat.reduceMul, Nat.reduceDiv, Nat.reduceMod, Nat.reduceLT, Nat.reduceLeDiff, Nat.reduceEqDiff, Nat.reduceBEq, Nat.reduceBNe, Nat.reduceGT, Int.reduceAdd, Int.reduceSub, Int.reduceMul, Int.reduceNeg, Int.reduceLT, Int.reduceLE, Int.reduceEq, Int.reduceNe, Int.reduceBEq, Int.reduceBNe, Int.reduceToNat, Int.reduceGT, Int.reduceGE, ↓reduceIte, decide_true, decide_false, eq_self, Nat.mul_one, Nat.zero_mul, Nat.one_mul, Int.le_refl, Nat.le_refl, Int.cast_ofNat_Int]
      · by_cases hlt : (k : Int) < a.length
        · have hltb : (k : Int) < b.length := by omega
          obtain ⟨x, hx⟩ := get_lt hlt
          obtain ⟨y, hy⟩ := get_lt hltb
          have d1 := ints_at hx
          have d2 := ints_at hy
          rw [Nat.mul_one] at d1 d2
          have hc1 : IntKind.i64.wrap (k + 1) = ((k + 1 : Nat) : Int) := by rw [wrap_in (by omega) (by omega)]; omega
          by_cases hxy : x = y
          · subst hxy
            simp (decide := true) (maxSteps := 4000000) only [go_sem, Nat.reduceAdd, Nat.reduceSub, Nat.reduceMul, Nat.reduceDiv, Nat.reduceMod, Nat.reduceLT, Nat.reduceLeDiff, Nat.reduceEqDiff, Nat.reduceBEq, Nat.reduceBNe, Nat.reduceGT, Int.reduceAdd, Int.reduceSub, Int.reduceMul, Int.reduceNeg, Int.reduceLT, Int.reduceLE, Int.reduceEq, Int.reduceNe, Int.reduceBEq, Int.reduceBNe, Int.reduceToNat, Int.reduceGT, Int.reduceGE, ↓reduceIte, decide_true, decide_false, eq_self, Nat.mul_one, Nat.zero_mul, Nat.one_mul, Int.le_refl, Nat.le_refl, Int.cast_ofNat_Int, hlt, hltb, d1, d2, bne_self_eq_false]
            refine hI1 _ ⟨k + 1, by rw [take_snoc hx, take_snoc hy, hk], by omega⟩ (by simp only; omega) ?_
            simp (decide := true) (maxSteps := 4000000) only [go_sem, Nat.reduceAdd, Nat.reduceSub, Nat.reduceMul, Nat.reduceDiv, Nat.reduceMod, Nat.reduceLT, Nat.reduceLeDiff, Nat.reduceEqDiff, Nat.reduceBEq, Nat.reduceBNe, Nat.reduceGT, Int.reduceAdd, Int.reduceSub, Int.reduceMul, Int.reduceNeg, Int.reduceLT, Int.reduceLE, Int.reduceEq, Int.reduceNe, Int.reduceBEq, Int.reduceBNe, Int.reduceToNat, Int.reduceGT, Int.reduceGE, ↓reduceIte, decide_true, decide_false, eq_self, Nat.mul_one, Nat.zero_mul, Nat.one_mul, Int.le_refl, Nat.le_refl, Int.cast_ofNat_Int, hc1]
          · have hb : (x != y) = true := bne_int_t hxy
            simp (decide := true) (maxSteps := 4000000) only [go_sem, Nat.reduceAdd, Nat.reduceSub, Nat.reduceMul, Nat.reduceDiv, Nat.reduceMod, Nat.reduceLT, Nat.reduceLeDiff, Nat.reduceEqDiff, Nat.reduceBEq, Nat.reduceBNe, Nat.reduceGT, Int.reduceAdd, Int.reduceSub, Int.reduceMul, Int.reduceNeg, Int.reduceLT, Int.reduceLE, Int.reduceEq, Int.reduceNe, Int.reduceBEq, Int.reduceBNe, Int.reduceToNat, Int.reduceGT, Int.reduceGE, ↓reduceIte, decide_true, decide_false, eq_self, Nat.mul_one, Nat.zero_mul, Nat.one_mul, Int.le_refl, Nat.le_refl, Int.cast_ofNat_Int, hlt, hltb, d1, d2, hb]
            refine hQ1 _ _ ?_
            have : decide (a = b) = false := by
              rw [decide_eq_false_iff_not]
              rintro rfl
              rw [hx] at hy; cases hy; exact hxy rfl
            simp (decide := true) (maxSteps := 4000000) only [go_sem, Nat.reduceAdd, Nat.reduceSub, Nat.reduceMul, Nat.reduceDiv, Nat.reduceMod, Nat.reduceLT, Nat.reduceLeDiff, Nat.reduceEqDiff, Nat.reduceBEq, Nat.reduceBNe, Nat.reduceGT, Int.reduceAdd, Int.reduceSub, Int.reduceMul, Int.reduceNeg, Int.reduceLT, Int.reduceLE, Int.reduceEq, Int.reduceNe, Int.reduceBEq, Int.reduceBNe, Int.reduceToNat, Int.reduceGT, Int.reduceGE, ↓reduceIte, decide_true, decide_false, eq_self, Nat.mul_one, Nat.zero_mul, Nat.one_mul, Int.le_refl, Nat.le_refl, Int.cast_ofNat_Int, this]
        · have hke : k = a.length := by omega
          subst hke
          simp (decide := true) (maxSteps := 4000000) only [go_sem, Nat.reduceAdd, Nat.reduceSub, Nat.reduceMul, Nat.reduceDiv, Nat.reduceMod, Nat.reduceLT, Nat.reduceLeDiff, Nat.reduceEqDiff, Nat.reduceBEq, Nat.reduceBNe, Nat.reduceGT, Int.reduceAdd, Int.reduceSub, Int.reduceMul, Int.reduceNeg, Int.reduceLT, Int.reduceLE, Int.reduceEq, Int.reduceNe, Int.reduceBEq, Int.reduceBNe, Int.reduceToNat, Int.reduceGT, Int.reduceGE, ↓reduceIte, decide_true, decide_false, eq_self, Nat.mul_one, Nat.zero_mul, Nat.one_mul, Int.le_refl, Nat.le_refl, Int.cast_ofNat_Int, hlt]
          refine hQ1 _ _ ?_
          have : decide (a = b) = true := by
            rw [decide_eq_true_eq]
            rwa [List.take_length, List.take_of_length_le (by omega)] at hk
          simp (decide := true) (maxSteps := 4000000) only [go_sem, Nat.reduceAdd, Nat.reduceSub, Nat.reduceMul, Nat.reduceDiv, Nat.reduceMod, Nat.reduceLT, Nat.reduceLeDiff, Nat.reduceEqDiff, Nat.reduceBEq, Nat.reduceBNe, Nat.reduceGT, Int.reduceAdd, Int.reduceSub, Int.reduceMul, Int.reduceNeg, Int.reduceLT, Int.reduceLE, Int.reduceEq, Int.reduceNe, Int.reduceBEq, Int.reduceBNe, Int.reduceToNat, Int.reduceGT, Int.reduceGE, ↓reduceIte, decide_true, decide_false, eq_self, Nat.mul_one, Nat.zero_mul, Nat.one_mul, Int.le_refl, Nat.le_refl, Int.cast_ofNat_Int, this]
  · have hl' : ((a.length : Int) != (b.length : Int)) = true := bne_int_t (by omega)
    have hd : decide (a = b) = false := by
      rw [decide_eq_false_iff_not]
      rintro rfl; exact hl rfl
    rcases hs with ⟨rfl, rfl⟩ | ⟨f1, rfl⟩ <;> rcases ht with ⟨rfl, rfl⟩ | ⟨f2, rfl⟩
    · exact absurd rfl hl
    all_goals
      try simp only [List.length_nil, Int.cast_ofNat_Int] at hl'
      simp (decide := true) (maxSteps := 4000000) only [go_sem, Nat.reduceAdd, Nat.reduceSub, Nat.reduceMul, Nat.reduceDiv, Nat.reduceMod, Nat.reduceLT, Nat.reduceLeDiff, Nat.reduceEqDiff, Nat.reduceBEq, Nat.reduceBNe, Nat.reduceGT, Int.reduceAdd, Int.reduceSub, Int.reduceMul, Int.reduceNeg, Int.reduceLT, Int.reduceLE, Int.reduceEq, Int.reduceNe, Int.reduceBEq, Int.reduceBNe, Int.reduceToNat, Int.reduceGT, Int.reduceGE, ↓reduceIte, decide_true, decide_false, eq_self, Nat.mul_one, Nat.zero_mul, Nat.one_mul, Int.le_refl, Nat.le_refl, Int.cast_ofNat_Int, Try.f29, hl', hd]
noncomputable def hgSame : List TV → Option TV
  | [s, t] => match rowL unI s, rowL unI t with
    | some a, some b => if a.length ≤ 9223372036854775806 then some (.bool (decide (a = b))) else none
    | _, _ => none
  | _ => none
theorem hgSame_ok : ∀ xs r, hgSame xs = some r → PCalls Try.prog 29 xs r := by
  intro xs r h
  unfold hgSame at h
  split at h
  · split at h
    · rename_i a b ha hb
      split at h
      · rename_i hc; cases h
        exact hSame_c (rowL_some (un := unI) unI_nil (@unI_some) ha) (rowL_some (un := unI) unI_nil (@unI_some) hb) hc
      · cases h
    · cases h
  · cases h
noncomputable def spH11 : Pm.Spec := spH10.one 29 hgSame
theorem spH11_ok : SpecOk Try.prog spH11 := Spec.one_ok hgSame_ok spH10_ok
attribute [go_sem] hgSame
@[go_sem] theorem spH11_p (f : FuncId) (xs : List TV) : spH11.p f xs = Pm.Spec.p (spH10.one 29 hgSame) f xs := rfl
@[go_sem] theorem spH11_h (f : FuncId) (ps : List PV) (hl : List PO) : spH11.h f ps hl = Pm.Spec.h (spH10.one 29 hgSame) f ps hl := rfl
@[go_sem] theorem spH11_y (Y : Pm.YS) (f : FuncId) (ps : List PV) (hl : List PO) : spH11.y Y f ps hl = Pm.Spec.y (spH10.one 29 hgSame) Y f ps hl := rfl
@[go_sem] theorem spH11_fz (f : FuncId) : spH11.fz f = Pm.Spec.fz (spH10.one 29 hgSame) f := rfl
@[go_sem] theorem spH11_fr (f : FuncId) : spH11.fr f = Pm.Spec.fr (spH10.one 29 hgSame) f := rfl
@[go_sem] theorem spH11_yf (f : FuncId) : spH11.yf f = Pm.Spec.yf (spH10.one 29 hgSame) f := rfl
@[go_sem] theorem spH11_mu (t : TypeId) : spH11.mu t = Pm.Spec.mu (spH10.one 29 hgSame) t := rfl
@[go_sem] theorem spH11_nf (t : TypeId) : spH11.nf t = Pm.Spec.nf (spH10.one 29 hgSame) t := rfl
theorem hSameSpans_c {a b : List Span} {s t : TV} (hs : IsRow Span.cs s a) (ht : IsRow Span.cs t b) (ha : a.length ≤ 9223372036854775806) : PCalls Try.prog 18 [s, t] (.bool (decide (a = b))) := by
  refine pcalls_by Try.mixes noSpec_ok (fn := Try.f18) Try.func18 rfl (by kernel_rfl) (by show 2 ≤ _; decide) ?_
  by_cases hl : a.length = b.length
  · by_cases h0 : a.length = 0
    · have ea : a = [] := List.length_eq_zero_iff.1 h0
      have eb : b = [] := List.length_eq_zero_iff.1 (by omega)
      subst ea; subst eb
      rcases hs with ⟨rfl, _⟩ | ⟨f1, rfl⟩ <;> rcases ht with ⟨rfl, _⟩ | ⟨f2, rfl⟩
      all_goals
        simp (decide := true) (maxSteps := 4000000) only [go_sem, Nat.reduceAdd, Nat.reduceSub, Nat.reduceMul, Nat.reduceDiv, Nat.reduceMod, Nat.reduceLT, Nat.reduceLeDiff, Nat.reduceEqDiff, Nat.reduceBEq, Nat.reduceBNe, Nat.reduceGT, Int.reduceAdd, Int.reduceSub, Int.reduceMul, Int.reduceNeg, Int.reduceLT, Int.reduceLE, Int.reduceEq, Int.reduceNe, Int.reduceBEq, Int.reduceBNe, Int.reduceToNat, Int.reduceGT, Int.reduceGE, ↓reduceIte, decide_true, decide_false, eq_self, Nat.mul_one, Nat.zero_mul, Nat.one_mul, Int.le_refl, Nat.le_refl, Int.cast_ofNat_Int, Try.f18, List.length_nil, bne_self_eq_false]
        refine pwpC_loopU (A := Unit) [0, 1] (fun _ => [(5, .t (.int .i64 0))]) (fun _ => []) (fun _ => 0) () (by decide) (fun _ => by rfl) ?_ fun Q1 hQ1 _ I1 hI1 => ?_
        · simp (decide := true) (maxSteps := 4000000) only [go_sem, Nat.reduceAdd, Nat.reduceSub, Nat.reduceMul, Nat.reduceDiv, Nat.reduceMod, Nat.reduceLT, Nat.reduceLeDiff, Nat.reduceEqDiff, Nat.reduceBEq, Nat.reduceBNe, Nat.reduceGT, Int.reduceAdd, Int.reduceSub, Int.reduceMul, Int.reduceNeg, Int.reduceLT, Int.reduceLE, Int.reduceEq, Int.reduceNe, Int.reduceBEq, Int.reduceBNe, Int.reduceToNat, Int.reduceGT, Int.reduceGE, ↓reduceIte, decide_true, decide_false, eq_self, Nat.mul_one, Nat.zero_mul, Nat.one_mul, Int.le_refl, Nat.le_refl, Int.cast_ofNat_Int]
        · simp (decide := true) (maxSteps := 4000000) only [go_sem, Nat.reduceAdd, Nat.reduceSub, Nat.reduceMul, Nat.reduceDiv, Nat.reduceMod, Nat.reduceLT, Nat.reduceLeDiff, Nat.reduceEqDiff, Nat.reduceBEq, Nat.reduceBNe, Nat.reduceGT, Int.reduceAdd, Int.reduceSub, Int.reduceMul, Int.reduceNeg, Int.reduceLT, Int.reduceLE, Int.reduceEq, Int.reduceNe, Int.reduceBEq, Int.reduceBNe, Int.reduceToNat, Int.reduceGT, Int.reduceGE, ↓reduceIte, decide_true, decide_false, eq_self, Nat.mul_one, Nat.zero_mul, Nat.one_mul, Int.le_refl, Nat.le_refl, Int.cast_ofNat_Int, List.length_nil]
          refine hQ1 _ _ ?_
          simp (decide := true) (maxSteps := 4000000) only [go_sem, Nat.reduceAdd, Nat.reduceSub, Nat.reduceMul, Nat.reduceDiv, Nat.reduceMod, Nat.reduceLT, Nat.reduceLeDiff, Nat.reduceEqDiff, Nat.reduceBEq, Nat.reduceBNe, Nat.reduceGT, Int.reduceAdd, Int.reduceSub, Int.reduceMul, Int.reduceNeg, Int.reduceLT, Int.reduceLE, Int.reduceEq, Int.reduceNe, Int.reduceBEq, Int.reduceBNe, Int.reduceToNat, Int.reduceGT, Int.reduceGE, ↓reduceIte, decide_true, decide_false, eq_self, Nat.mul_one, Nat.zero_mul, Nat.one_mul, Int.le_refl, Nat.le_refl, Int.cast_ofNat_Int]
    · obtain ⟨f1, rfl⟩ := hs.ne (by omega)
      obtain ⟨f2, rfl⟩ := ht.ne (by omega)
      have hl' : ((a.length : Int) != (b.length : Int)) = false := bne_int_f (by omega)
      simp (decide := true) (maxSteps := 4000000) only [go_sem, Nat.reduceAdd, Nat.reduceSub, Nat.reduceMul, Nat.reduceDiv, Nat.reduceMod, Nat.reduceLT, Nat.reduceLeDiff, Nat.reduceEqDiff, Nat.reduceBEq, Nat.reduceBNe, Nat.reduceGT, Int.reduceAdd, Int.reduceSub, Int.reduceMul, Int.reduceNeg, Int.reduceLT, Int.reduceLE, Int.reduceEq, Int.reduceNe, Int.reduceBEq, Int.reduceBNe, Int.reduceToNat, Int.reduceGT, Int.reduceGE, ↓reduceIte, decide_true, decide_false, eq_self, Nat.mul_one, Nat.zero_mul, Nat.one_mul, Int.le_refl, Nat.le_refl, Int.cast_ofNat_Int, Try.f18, hl']
      refine pwpC_loopU (A := { k : Nat // a.take k = b.take k ∧ k ≤ a.length }) [0, 1] (fun k => [(5, .t (.int .i64 k.1))]) (fun _ => []) (fun k => a.length - k.1) ⟨0, by simp⟩ (by decide) (fun _ => by rfl) ?_ fun Q1 hQ1 ⟨k, hk, hka⟩ I1 hI1 => ?_
      · simp (decide := true) (maxSteps := 4000000) only [go_sem, Nat.reduceAdd, Nat.reduceSub, Nat.reduceMul, Nat.reduceDiv, Nat.reduceMod, Nat.reduceLT, Nat.reduceLeDiff, Nat.reduceEqDiff, Nat.reduceBEq, Nat.reduceBNe, Nat.reduceGT, Int.reduceAdd, Int.reduceSub, Int.reduceMul, Int.reduceNeg, Int.reduceLT, Int.reduceLE, Int.reduceEq, Int.reduceNe, Int.reduceBEq, Int.reduceBNe, Int.reduceToNat, Int.reduceGT, Int.reduceGE, ↓reduceIte, decide_true, decide_false, eq_self, Nat.mul_one, Nat.zero_mul, Nat.one_mul, Int.le_refl, Nat.le_refl, Int.cast_ofNat_Int]
      · by_cases hlt : (k : Int) < a.length
        · have hltb : (k : Int) < b.length := by omega
          obtain ⟨x, hx⟩ := get_lt hlt
          obtain ⟨y, hy⟩ := get_lt hltb
          have d1 := flat_at Span.cs (n := 2) (fun _ => rfl) hx
          have d2 := flat_at Span.cs (n := 2) (fun _ => rfl) hy
          have hc1 : IntKind.i64.wrap (k + 1) = ((k + 1 : Nat) : Int) := by rw [wrap_in (by omega) (by omega)]; omega
          obtain ⟨x0, x1⟩ := x
          obtain ⟨y0, y1⟩ := y
          by_cases hxy : x0 = y0 ∧ x1 = y1
          · obtain ⟨rfl, rfl⟩ := hxy
            simp (decide := true) (maxSteps := 4000000) only [go_sem, Nat.reduceAdd, Nat.reduceSub, Nat.reduceMul, Nat.reduceDiv, Nat.reduceMod, Nat.reduceLT, Nat.reduceLeDiff, Nat.reduceEqDiff, Nat.reduceBEq, Nat.reduceBNe, Nat.reduceGT, Int.reduceAdd, Int.reduceSub, Int.reduceMul, Int.reduceNeg, Int.reduceLT, Int.reduceLE, Int.reduceEq, Int.reduceNe, Int.reduceBEq, Int.reduceBNe, Int.reduceToNat, Int.reduceGT, Int.reduceGE, ↓reduceIte, decide_true, decide_false, eq_self, Nat.mul_one, Nat.zero_mul, Nat.one_mul, Int.le_refl, Nat.le_refl, Int.cast_ofNat_Int, hlt, hltb, d1, d2, Span.cs, beq_self_eq_true]
            refine hI1 _ ⟨k + 1, by rw [take_snoc hx, take_snoc hy, hk], by omega⟩ (by simp only; omega) ?_
            simp (decide := true) (maxSteps := 4000000) only [go_sem, Nat.reduceAdd, Nat.reduceSub, Nat.reduceMul, Nat.reduceDiv, Nat.reduceMod, Nat.reduceLT, Nat.reduceLeDiff, Nat.reduceEqDiff, Nat.reduceBEq, Nat.reduceBNe, Nat.reduceGT, Int.reduceAdd, Int.reduceSub, Int.reduceMul, Int.reduceNeg, Int.reduceLT, Int.reduceLE, Int.reduceEq, Int.reduceNe, Int.reduceBEq, Int.reduceBNe, Int.reduceToNat, Int.reduceGT, Int.reduceGE, ↓reduceIte, decide_true, decide_false, eq_self, Nat.mul_one, Nat.zero_mul, Nat.one_mul, Int.le_refl, Nat.le_refl, Int.cast_ofNat_Int, hc1]
          · have hb : (x0 == y0 && x1 == y1) = false := by simpa using hxy
            simp (decide := true) (maxSteps := 4000000) only [go_sem, Nat.reduceAdd, Nat.reduceSub, Nat.reduceMul, Nat.reduceDiv, Nat.reduceMod, Nat.reduceLT, Nat.reduceLeDiff, Nat.reduceEqDiff, Nat.reduceBEq, Nat.reduceBNe, Nat.reduceGT, Int.reduceAdd, Int.reduceSub, Int.reduceMul, Int.reduceNeg, Int.reduceLT, Int.reduceLE, Int.reduceEq, Int.reduceNe, Int.reduceBEq, Int.reduceBNe, Int.reduceToNat, Int.reduceGT, Int.reduceGE, ↓reduceIte, decide_true, decide_false, eq_self, Nat.mul_one, Nat.zero_mul, Nat.one_mul, Int.le_refl, Nat.le_refl, Int.cast_ofNat_Int, hlt, hltb, d1, d2, Span.cs, hb]
            refine hQ1 _ _ ?_
            have : decide (a = b) = false := by
              rw [decide_eq_false_iff_not]
              rintro rfl
              rw [hx] at hy; cases hy; exact hxy ⟨rfl, rfl⟩
            simp (decide := true) (maxSteps := 4000000) only [go_sem, Nat.reduceAdd, Nat.reduceSub, Nat.reduceMul, Nat.reduceDiv, Nat.reduceMod, Nat.reduceLT, Nat.reduceLeDiff, Nat.reduceEqDiff, Nat.reduceBEq, Nat.reduceBNe, Nat.reduceGT, Int.reduceAdd, Int.reduceSub, Int.reduceMul, Int.reduceNeg, Int.reduceLT, Int.reduceLE, Int.reduceEq, Int.reduceNe, Int.reduceBEq, Int.reduceBNe, Int.reduceToNat, Int.reduceGT, Int.reduceGE, ↓reduceIte, decide_true, decide_false, eq_self, Nat.mul_one, Nat.zero_mul, Nat.one_mul, Int.le_refl, Nat.le_refl, Int.cast_ofNat_Int, this]
        · have hke : k = a.length := by omega
          subst hke
          simp (decide := true) (maxSteps := 4000000) only [go_sem, Nat.reduceAdd, Nat.reduceSub, Nat.reduceMul, Nat.reduceDiv, Nat.reduceMod, Nat.reduceLT, Nat.reduceLeDiff, Nat.reduceEqDiff, Nat.reduceBEq, Nat.reduceBNe, Nat.reduceGT, Int.reduceAdd, Int.reduceSub, Int.reduceMul, Int.reduceNeg, Int.reduceLT, Int.reduceLE, Int.reduceEq, Int.reduceNe, Int.reduceBEq, Int.reduceBNe, Int.reduceToNat, Int.reduceGT, Int.reduceGE, ↓reduceIte, decide_true, decide_false, eq_self, Nat.mul_one, Nat.zero_mul, Nat.one_mul, Int.le_refl, Nat.le_refl, Int.cast_ofNat_Int, hlt]
          refine hQ1 _ _ ?_
          have : decide (a = b) = true := by
            rw [decide_eq_true_eq]
            rwa [List.take_length, List.take_of_length_le (by omega)] at hk
          simp (decide := true) (maxSteps := 4000000) only [go_sem, Nat.reduceAdd, Nat.reduceSub, Nat.reduceMul, Nat.reduceDiv, Nat.reduceMod, Nat.reduceLT, Nat.reduceLeDiff, Nat.reduceEqDiff, Nat.reduceBEq, Nat.reduceBNe, Nat.reduceGT, Int.reduceAdd, Int.reduceSub, Int.reduceMul, Int.reduceNeg, Int.reduceLT, Int.reduceLE, Int.reduceEq, Int.reduceNe, Int.reduceBEq, Int.reduceBNe, Int.reduceToNat, Int.reduceGT, Int.reduceGE, ↓reduceIte, decide_true, decide_false, eq_self, Nat.mul_one, Nat.zero_mul, Nat.one_mul, Int.le_refl, Nat.le_refl, Int.cast_ofNat_Int, this]
  · have hl' : ((a.length : Int) != (b.length : Int)) = true := bne_int_t (by omega)
    have hd : decide (a = b) = false := by
      rw [decide_eq_false_iff_not]
      rintro rfl; exact hl rfl
    rcases hs with ⟨rfl, rfl⟩ | ⟨f1, rfl⟩ <;> rcases ht with ⟨rfl, rfl⟩ | ⟨f2, rfl⟩
    · exact absurd rfl hl
    all_goals
      try simp only [List.length_nil, Int.cast_ofNat_Int] at hl'
      simp (decide := true) (maxSteps := 4000000) only [go_sem, Nat.reduceAdd, Nat.reduceSub, Nat.reduceMul, Nat.reduceDiv, Nat.reduceMod, Nat.reduceLT, Nat.reduceLeDiff, Nat.reduceEqDiff, Nat.reduceBEq, Nat.reduceBNe, Nat.reduceGT, Int.reduceAdd, Int.reduceSub, Int.reduceMul, Int.reduceNeg, Int.reduceLT, Int.reduceLE, Int.reduceEq, Int.reduceNe, Int.reduceBEq, Int.reduceBNe, Int.reduceToNat, Int.reduceGT, Int.reduceGE, ↓reduceIte, decide_true, decide_false, eq_self, Nat.mul_one, Nat.zero_mul, Nat.one_mul, Int.le_refl, Nat.le_refl, Int.cast_ofNat_Int, Try.f18, hl', hd]
noncomputable def hgSameSpans : List TV → Option TV
  | [s, t] => match rowL unS s, rowL unS t with
    | some a, some b => if a.length ≤ 9223372036854775806 then some (.bool (decide (a = b))) else none
    | _, _ => none
  | _ => none
theorem hgSameSpans_ok : ∀ xs r, hgSameSpans xs = some r → PCalls Try.prog 18 xs r := by
  intro xs r h
  unfold hgSameSpans at h
  split at h
  · split at h
    · rename_i a b ha hb
      split at h
      · rename_i hc; cases h
        exact hSameSpans_c (rowL_some (un := unS) unS_nil (@unS_some) ha) (rowL_some (un := unS) unS_nil (@unS_some) hb) hc
      · cases h
    · cases h
  · cases h
noncomputable def spH12 : Pm.Spec := spH11.one 18 hgSameSpans
theorem spH12_ok : SpecOk Try.prog spH12 := Spec.one_ok hgSameSpans_ok spH11_ok
attribute [go_sem] hgSameSpans
@[go_sem] theorem spH12_p (f : FuncId) (xs : List TV) : spH12.p f xs = Pm.Spec.p (spH11.one 18 hgSameSpans) f xs := rfl
@[go_sem] theorem spH12_h (f : FuncId) (ps : List PV) (hl : List PO) : spH12.h f ps hl = Pm.Spec.h (spH11.one 18 hgSameSpans) f ps hl := rfl
@[go_sem] theorem spH12_y (Y : Pm.YS) (f : FuncId) (ps : List PV) (hl : List PO) : spH12.y Y f ps hl = Pm.Spec.y (spH11.one 18 hgSameSpans) Y f ps hl := rfl
@[go_sem] theorem spH12_fz (f : FuncId) : spH12.fz f = Pm.Spec.fz (spH11.one 18 hgSameSpans) f := rfl
@[go_sem] theorem spH12_fr (f : FuncId) : spH12.fr f = Pm.Spec.fr (spH11.one 18 hgSameSpans) f := rfl
@[go_sem] theorem spH12_yf (f : FuncId) : spH12.yf f = Pm.Spec.yf (spH11.one 18 hgSameSpans) f := rfl
@[go_sem] theorem spH12_mu (t : TypeId) : spH12.mu t = Pm.Spec.mu (spH11.one 18 hgSameSpans) t := rfl
@[go_sem] theorem spH12_nf (t : TypeId) : spH12.nf t = Pm.Spec.nf (spH11.one 18 hgSameSpans) t := rfl
theorem hPick_c {l : List Int} {s : TV} (hs : IsRow ic s l) (hl : l.length ≤ 9223372036854775806) (n : Int) : PCalls Try.prog 26 [s, .int .i64 n] (.int .i64 (pickI l n)) := by
  have hI := rowI_is hs
  refine pcalls_by Try.mixes spH12_ok (fn := Try.f26) Try.func26 rfl (by kernel_rfl) (by show 2 ≤ _; decide) ?_
  unfold pickI
  by_cases h0 : l.length = 0
  · have h0' : ((l.length : Int) == 0) = true := beq_int_t (by omega)
    rcases hs with ⟨rfl, rfl⟩ | ⟨full, rfl⟩ <;> simp (decide := true) (maxSteps := 4000000) only [go_sem, Nat.reduceAdd, Nat.reduceSub, Nat.reduceMul, Nat.reduceDiv, Nat.reduceMod, Nat.reduceLT, Nat.reduceLeDiff, Nat.reduceEqDiff, Nat.reduceBEq, Nat.reduceBNe, Nat.reduceGT, Int.reduceAdd, Int.reduceSub, Int.reduceMul, Int.reduceNeg, Int.reduceLT, Int.reduceLE, Int.reduceEq, Int.reduceNe, Int.reduceBEq, Int.reduceBNe, Int.reduceToNat, Int.reduceGT, Int.reduceGE, ↓reduceIte, decide_true, decide_false, eq_self, Nat.mul_one, Nat.zero_mul, Nat.one_mul, Int.le_refl, Nat.le_refl, Int.cast_ofNat_Int, Try.f26, h0, h0', List.length_nil]
  · have h0' : ((l.length : Int) == 0) = false := beq_int_f (by omega)
    obtain ⟨full, rfl⟩ := hs.ne (by omega)
    have hc : 0 < (l.length : Int) ∧ (l.length : Int) ≤ 9223372036854775807 := by omega
    have m1 := Int.emod_nonneg n (show (l.length : Int) ≠ 0 by omega)
    have m2 := Int.emod_lt_of_pos n (show 0 < (l.length : Int) by omega)
    obtain ⟨k, hk⟩ := Int.eq_ofNat_of_zero_le m1
    rw [hk] at m2
    obtain ⟨x, hx⟩ := get_lt m2
    have d := flat_at ic (n := 1) (fun _ => rfl) hx
    rw [Nat.mul_one] at d
    simp (decide := true) (maxSteps := 4000000) only [go_sem, Nat.reduceAdd, Nat.reduceSub, Nat.reduceMul, Nat.reduceDiv, Nat.reduceMod, Nat.reduceLT, Nat.reduceLeDiff, Nat.reduceEqDiff, Nat.reduceBEq, Nat.reduceBNe, Nat.reduceGT, Int.reduceAdd, Int.reduceSub, Int.reduceMul, Int.reduceNeg, Int.reduceLT, Int.reduceLE, Int.reduceEq, Int.reduceNe, Int.reduceBEq, Int.reduceBNe, Int.reduceToNat, Int.reduceGT, Int.reduceGE, ↓reduceIte, decide_true, decide_false, eq_self, Nat.mul_one, Nat.zero_mul, Nat.one_mul, Int.le_refl, Nat.le_refl, Int.cast_ofNat_Int, Try.f26, h0, h0', hc, hk, m2, d, ic, Int.toNat_natCast, nth_eq hx]
noncomputable def hgPick : List TV → Option TV
  | [s, .int .i64 n] => match rowL unI s with
    | some l => if l.length ≤ 9223372036854775806 then some (.int .i64 (pickI l n)) else none
    | none => none
  | _ => none
theorem hgPick_ok : ∀ xs r, hgPick xs = some r → PCalls Try.prog 26 xs r := by
  intro xs r h
  unfold hgPick at h
  split at h
  · split at h
    · rename_i l hl
      split at h
      · rename_i hc; cases h
        exact hPick_c (rowL_some (un := unI) unI_nil (@unI_some) hl) hc _
      · cases h
    · cases h
  · cases h
noncomputable def spH13 : Pm.Spec := spH12.one 26 hgPick
theorem spH13_ok : SpecOk Try.prog spH13 := Spec.one_ok hgPick_ok spH12_ok
attribute [go_sem] hgPick
@[go_sem] theorem spH13_p (f : FuncId) (xs : List TV) : spH13.p f xs = Pm.Spec.p (spH12.one 26 hgPick) f xs := rfl
@[go_sem] theorem spH13_h (f : FuncId) (ps : List PV) (hl : List PO) : spH13.h f ps hl = Pm.Spec.h (spH12.one 26 hgPick) f ps hl := rfl
@[go_sem] theorem spH13_y (Y : Pm.YS) (f : FuncId) (ps : List PV) (hl : List PO) : spH13.y Y f ps hl = Pm.Spec.y (spH12.one 26 hgPick) Y f ps hl := rfl
@[go_sem] theorem spH13_fz (f : FuncId) : spH13.fz f = Pm.Spec.fz (spH12.one 26 hgPick) f := rfl
@[go_sem] theorem spH13_fr (f : FuncId) : spH13.fr f = Pm.Spec.fr (spH12.one 26 hgPick) f := rfl
@[go_sem] theorem spH13_yf (f : FuncId) : spH13.yf f = Pm.Spec.yf (spH12.one 26 hgPick) f := rfl
@[go_sem] theorem spH13_mu (t : TypeId) : spH13.mu t = Pm.Spec.mu (spH12.one 26 hgPick) t := rfl
@[go_sem] theorem spH13_nf (t : TypeId) : spH13.nf t = Pm.Spec.nf (spH12.one 26 hgPick) t := rfl
noncomputable def spH14 : Pm.Spec := spH13
theorem spH14_ok : SpecOk Try.prog spH14 := spH13_ok
@[go_sem] theorem spH14_p (f : FuncId) (xs : List TV) : spH14.p f xs = Pm.Spec.p (spH13) f xs := rfl
@[go_sem] theorem spH14_h (f : FuncId) (ps : List PV) (hl : List PO) : spH14.h f ps hl = Pm.Spec.h (spH13) f ps hl := rfl
@[go_sem] theorem spH14_y (Y : Pm.YS) (f : FuncId) (ps : List PV) (hl : List PO) : spH14.y Y f ps hl = Pm.Spec.y (spH13) Y f ps hl := rfl
@[go_sem] theorem spH14_fz (f : FuncId) : spH14.fz f = Pm.Spec.fz (spH13) f := rfl
@[go_sem] theorem spH14_fr (f : FuncId) : spH14.fr f = Pm.Spec.fr (spH13) f := rfl
@[go_sem] theorem spH14_yf (f : FuncId) : spH14.yf f = Pm.Spec.yf (spH13) f := rfl
@[go_sem] theorem spH14_mu (t : TypeId) : spH14.mu t = Pm.Spec.mu (spH13) t := rfl
@[go_sem] theorem spH14_nf (t : TypeId) : spH14.nf t = Pm.Spec.nf (spH13) t := rfl
noncomputable def spH15 : Pm.Spec := spH14
theorem spH15_ok : SpecOk Try.prog spH15 := spH14_ok
@[go_sem] theorem spH15_p (f : FuncId) (xs : List TV) : spH15.p f xs = Pm.Spec.p (spH14) f xs := rfl
@[go_sem] theorem spH15_h (f : FuncId) (ps : List PV) (hl : List PO) : spH15.h f ps hl = Pm.Spec.h (spH14) f ps hl := rfl
@[go_sem] theorem spH15_y (Y : Pm.YS) (f : FuncId) (ps : List PV) (hl : List PO) : spH15.y Y f ps hl = Pm.Spec.y (spH14) Y f ps hl := rfl
@[go_sem] theorem spH15_fz (f : FuncId) : spH15.fz f = Pm.Spec.fz (spH14) f := rfl
@[go_sem] theorem spH15_fr (f : FuncId) : spH15.fr f = Pm.Spec.fr (spH14) f := rfl
@[go_sem] theorem spH15_yf (f : FuncId) : spH15.yf f = Pm.Spec.yf (spH14) f := rfl
@[go_sem] theorem spH15_mu (t : TypeId) : spH15.mu t = Pm.Spec.mu (spH14) t := rfl
@[go_sem] theorem spH15_nf (t : TypeId) : spH15.nf t = Pm.Spec.nf (spH14) t := rfl
noncomputable def spH16 : Pm.Spec := spH15
theorem spH16_ok : SpecOk Try.prog spH16 := spH15_ok
@[go_sem] theorem spH16_p (f : FuncId) (xs : List TV) : spH16.p f xs = Pm.Spec.p (spH15) f xs := rfl
@[go_sem] theorem spH16_h (f : FuncId) (ps : List PV) (hl : List PO) : spH16.h f ps hl = Pm.Spec.h (spH15) f ps hl := rfl
@[go_sem] theorem spH16_y (Y : Pm.YS) (f : FuncId) (ps : List PV) (hl : List PO) : spH16.y Y f ps hl = Pm.Spec.y (spH15) Y f ps hl := rfl
@[go_sem] theorem spH16_fz (f : FuncId) : spH16.fz f = Pm.Spec.fz (spH15) f := rfl
@[go_sem] theorem spH16_fr (f : FuncId) : spH16.fr f = Pm.Spec.fr (spH15) f := rfl
@[go_sem] theorem spH16_yf (f : FuncId) : spH16.yf f = Pm.Spec.yf (spH15) f := rfl
@[go_sem] theorem spH16_mu (t : TypeId) : spH16.mu t = Pm.Spec.mu (spH15) t := rfl
@[go_sem] theorem spH16_nf (t : TypeId) : spH16.nf t = Pm.Spec.nf (spH15) t := rfl
noncomputable def spH : Pm.Spec := spH16
@[go_sem] theorem spH_p (f : FuncId) (xs : List TV) : spH.p f xs = Pm.Spec.p (spH16) f xs := rfl
@[go_sem] theorem spH_h (f : FuncId) (ps : List PV) (hl : List PO) : spH.h f ps hl = Pm.Spec.h (spH16) f ps hl := rfl
@[go_sem] theorem spH_y (Y : Pm.YS) (f : FuncId) (ps : List PV) (hl : List PO) : spH.y Y f ps hl = Pm.Spec.y (spH16) Y f ps hl := rfl
@[go_sem] theorem spH_fz (f : FuncId) : spH.fz f = Pm.Spec.fz (spH16) f := rfl
@[go_sem] theorem spH_fr (f : FuncId) : spH.fr f = Pm.Spec.fr (spH16) f := rfl
@[go_sem] theorem spH_yf (f : FuncId) : spH.yf f = Pm.Spec.yf (spH16) f := rfl
@[go_sem] theorem spH_mu (t : TypeId) : spH.mu t = Pm.Spec.mu (spH16) t := rfl
@[go_sem] theorem spH_nf (t : TypeId) : spH.nf t = Pm.Spec.nf (spH16) t := rfl
theorem spH_ok : SpecOk Try.prog spH := spH16_ok
theorem noSpec_okH : SpecOk Try.prog noSpec := noSpec_ok
end Go.Proofs.Ytadkjjnnnkfalaa.Sx

/- Part Sa. -/
namespace Go.Proofs.Ytadkjjnnnkfalaa.Sx
end Go.Proofs.Ytadkjjnnnkfalaa.Sx
namespace Go.Os
open Go Go.Pm Go.Oc Go.Oh

structure Sx where
  step : Int
  tab : List Span
  idx : Span
  wrong : Int
  shade : List Span
def Sx.cs (x : Sx) (sT sS : TV) : List TV := [.int .i64 x.step, sT, .int .i64 x.idx.lo, .int .i64 x.idx.hi, .int .i64 x.wrong, sS]
def Sx.t (x : Sx) (sT sS : TV) : TV := .agg (x.cs sT sS)
def sxOk (x : Sx) : Bool := inB x.step 1 72000 && (inB x.tab.length 2 12 && (x.tab.all (spannedB · (-600) 600) && (decide (x.step * (x.tab.length - 1) ≤ 504000) && (spannedB x.idx (-1800) 1800 && (inB x.wrong 0 60 && (decide ((x.shade.length : Int) ≤ 6) && x.shade.all (spannedB · (-120) 120)))))))
theorem spannedB_iff {s : Span} {a b : Int} : spannedB s a b = true ↔ a ≤ s.lo ∧ s.lo ≤ s.hi ∧ s.hi ≤ b := by simp [spannedB, and_assoc]
structure GoodS (x : Sx) : Prop where
  st : 1 ≤ x.step ∧ x.step ≤ 72000
  len : 2 ≤ x.tab.length ∧ x.tab.length ≤ 12
  tab : ∀ s ∈ x.tab, -600 ≤ s.lo ∧ s.lo ≤ s.hi ∧ s.hi ≤ 600
  long : x.step * (x.tab.length - 1) ≤ 504000
  idx : -1800 ≤ x.idx.lo ∧ x.idx.lo ≤ x.idx.hi ∧ x.idx.hi ≤ 1800
  wr : 0 ≤ x.wrong ∧ x.wrong ≤ 60
  sh : x.shade.length ≤ 6
  shade : ∀ s ∈ x.shade, -120 ≤ s.lo ∧ s.lo ≤ s.hi ∧ s.hi ≤ 120
theorem sxOk_iff {x : Sx} : sxOk x = true ↔ GoodS x := by
  unfold sxOk
  simp only [Bool.and_eq_true, inB_iff, decide_eq_true_eq, List.all_eq_true, spannedB_iff]
  constructor
  · rintro ⟨a, b, c, d, e, f, g, h⟩; exact ⟨a, ⟨by omega, by omega⟩, c, d, e, f, by omega, h⟩
  · rintro ⟨a, b, c, d, e, f, g, h⟩; exact ⟨a, ⟨by omega, by omega⟩, c, d, e, f, by omega, h⟩
/-- The span at a place. -/
def atS (l : List Span) (k : Nat) : Span := l.getD k ⟨0, 0⟩
theorem atS_eq {l : List Span} {k : Nat} {x : Span} (h : l[k]? = some x) : atS l k = x := by
  unfold atS; rw [List.getD_eq_getElem?_getD, h]; rfl
/-- Between what the correction at an angle lies. -/
def corr (step : Int) (l : List Span) (at' : Int) : Span :=
  let k := (at' / step).toNat; let d := at' % step
  if d = 0 then atS l k else ⟨((atS l k).lo * (step - d) + (atS l (k + 1)).lo * d) / step, ((atS l k).hi * (step - d) + (atS l (k + 1)).hi * d) / step⟩
def last (x : Sx) : Int := x.step * (x.tab.length - 1)
theorem last_b {x : Sx} (h : GoodS x) : 1 ≤ last x ∧ last x ≤ 504000 := by
  refine ⟨?_, h.long⟩
  have h1 := h.len; have h2 := h.st
  have := Int.mul_le_mul h2.1 (show (1 : Int) ≤ (x.tab.length : Int) - 1 by omega) (by omega) (by omega)
  unfold last; omega
def isRd (x : Sx) (at' sh : Int) : Bool := inB at' 0 (last x) && inB sh 0 (2 ^ x.shade.length - 1)
/-- The place of an angle in the table. -/
structure InTab (step : Int) (n : Nat) (at' : Int) : Prop where
  k0 : 0 ≤ at' / step
  kn : (at' / step).toNat < n
  d0 : 0 ≤ at' % step
  ds : at' % step < step
  kd : at' % step ≠ 0 → (at' / step).toNat + 1 < n
theorem inTab {step : Int} {n : Nat} {at' : Int} (hs : 1 ≤ step) (hn : 1 ≤ n) (h0 : 0 ≤ at') (h1 : at' ≤ step * (n - 1)) : InTab step n at' := by
  have e1 := Int.emod_nonneg at' (show step ≠ 0 by omega)
  have e2 := Int.emod_lt_of_pos at' (show 0 < step by omega)
  have e3 := Int.mul_ediv_add_emod at' step
  have q0 : 0 ≤ at' / step := Int.ediv_nonneg h0 (by omega)
  have q1 : at' / step ≤ (n : Int) - 1 := by
    have := Int.ediv_le_ediv (show 0 < step by omega) h1
    rwa [Int.mul_ediv_cancel_left _ (by omega)] at this
  refine ⟨q0, by omega, e1, e2, fun hd => ?_⟩
  have q2 : at' / step ≠ (n : Int) - 1 := fun e => by
    rw [e] at e3; omega
  omega
theorem mulR {a b m n : Int} (ha : -m ≤ a ∧ a ≤ m) (hb : 0 ≤ b ∧ b ≤ n) (hm : 0 ≤ m) : -(m * n) ≤ a * b ∧ a * b ≤ m * n := by
  have h1 := Int.mul_le_mul_of_nonneg_right ha.2 hb.1
  have h2 := Int.mul_le_mul_of_nonneg_left hb.2 hm
  have h3 := Int.mul_le_mul_of_nonneg_right ha.1 hb.1
  have h4 : -m * b = -(m * b) := Int.neg_mul m b
  omega
/-- A weighted middle lies between. -/
theorem mid_b {a b d s m : Int} (ha : -m ≤ a ∧ a ≤ m) (hb : -m ≤ b ∧ b ≤ m) (hd : 0 ≤ d ∧ d < s) : -m ≤ (a * (s - d) + b * d) / s ∧ (a * (s - d) + b * d) / s ≤ m := by
  have hs : 0 < s := by omega
  have h1 := Int.mul_le_mul_of_nonneg_right ha.1 (show 0 ≤ s - d by omega)
  have h2 := Int.mul_le_mul_of_nonneg_right ha.2 (show 0 ≤ s - d by omega)
  have h3 := Int.mul_le_mul_of_nonneg_right hb.1 hd.1
  have h4 := Int.mul_le_mul_of_nonneg_right hb.2 hd.1
  have e1 : m * (s - d) + m * d = m * s := by rw [← Int.mul_add]; congr 1; omega
  have e2 : -m * (s - d) + -m * d = -m * s := by rw [← Int.mul_add]; congr 1; omega
  constructor
  · rw [Int.le_ediv_iff_mul_le hs]; omega
  · have := Int.ediv_le_ediv hs (show a * (s - d) + b * d ≤ m * s by omega)
    rwa [Int.mul_ediv_cancel _ (by omega)] at this
theorem atS_mem {l : List Span} {k : Nat} (h : k < l.length) : atS l k ∈ l := by
  rw [atS_eq (List.getElem?_eq_getElem h)]; exact List.getElem_mem h
theorem mid_le {a b a' b' d s : Int} (ha : a ≤ a') (hb : b ≤ b') (hd : 0 ≤ d ∧ d < s) : (a * (s - d) + b * d) / s ≤ (a' * (s - d) + b' * d) / s := by
  refine Int.ediv_le_ediv (by omega) ?_
  have h1 := Int.mul_le_mul_of_nonneg_right ha (show 0 ≤ s - d by omega)
  have h2 := Int.mul_le_mul_of_nonneg_right hb hd.1
  omega
theorem corr_b {step : Int} {l : List Span} {at' : Int} (ht : InTab step l.length at') (hl : ∀ s ∈ l, -600 ≤ s.lo ∧ s.lo ≤ s.hi ∧ s.hi ≤ 600) : -600 ≤ (corr step l at').lo ∧ (corr step l at').lo ≤ (corr step l at').hi ∧ (corr step l at').hi ≤ 600 := by
  have h1 := hl _ (atS_mem ht.kn)
  unfold corr
  simp only
  split
  · exact h1
  · rename_i hd
    have h2 := hl _ (atS_mem (ht.kd hd))
    have a := mid_b (a := (atS l (at' / step).toNat).lo) (b := (atS l ((at' / step).toNat + 1)).lo) (m := 600) (by omega) (by omega) ⟨ht.d0, ht.ds⟩
    have b := mid_b (a := (atS l (at' / step).toNat).hi) (b := (atS l ((at' / step).toNat + 1)).hi) (m := 600) (by omega) (by omega) ⟨ht.d0, ht.ds⟩
    exact ⟨a.1, mid_le h1.2.1 h2.2.1 ⟨ht.d0, ht.ds⟩, b.2⟩
def addS (a b : Span) : Span := ⟨a.lo + b.lo, a.hi + b.hi⟩
/-- What is read wrongly, and the shades that are used. -/
def shTo (x : Sx) (set : Nat) (k : Nat) : Span := (List.range k).foldl (fun s i => if set.testBit i then addS s (atS x.shade i) else s) ⟨-x.wrong, x.wrong⟩
def shs (x : Sx) (set : Nat) : Span := shTo x set x.shade.length
theorem shTo_succ (x : Sx) (set k : Nat) : shTo x set (k + 1) = if set.testBit k then addS (shTo x set k) (atS x.shade k) else shTo x set k := by
  unfold shTo; rw [List.range_succ, List.foldl_append]; rfl
theorem shTo_b {x : Sx} (h : GoodS x) (set : Nat) : ∀ k, k ≤ x.shade.length → -60 - 120 * (k : Int) ≤ (shTo x set k).lo ∧ (shTo x set k).lo ≤ (shTo x set k).hi ∧ (shTo x set k).hi ≤ 60 + 120 * (k : Int)
  | 0, _ => by have := h.wr; simp only [shTo, List.range_zero, List.foldl_nil]; omega
  | k + 1, hk => by
    have ih := shTo_b h set k (by omega)
    have hs := h.shade _ (atS_mem (show k < x.shade.length by omega))
    rw [shTo_succ]
    split
    · simp only [addS]; omega
    · omega
theorem shs_b {x : Sx} (h : GoodS x) (set : Nat) : -780 ≤ (shs x set).lo ∧ (shs x set).lo ≤ (shs x set).hi ∧ (shs x set).hi ≤ 780 := by
  have := shTo_b h set x.shade.length (Nat.le_refl _)
  have := h.sh
  unfold shs; omega
/-- Between what the true angle of a reading lies. -/
def readS (x : Sx) (at' : Int) (set : Nat) : Span := addS (addS (addS ⟨at', at'⟩ x.idx) (corr x.step x.tab at')) (shs x set)
/-- What Read returns. -/
def readP (x : Sx) (at' sh : Int) : Span × Int := if sxOk x then (if isRd x at' sh then (readS x at' sh.toNat, 0) else (⟨0, 0⟩, 51)) else (⟨0, 0⟩, 50)
theorem isRd_iff {x : Sx} {at' sh : Int} : isRd x at' sh = true ↔ (0 ≤ at' ∧ at' ≤ last x) ∧ 0 ≤ sh ∧ sh ≤ 2 ^ x.shade.length - 1 := by
  unfold isRd; rw [Bool.and_eq_true, inB_iff, inB_iff]
theorem rd_tab {x : Sx} (h : GoodS x) {at' : Int} (h0 : 0 ≤ at') (h1 : at' ≤ last x) : InTab x.step x.tab.length at' := inTab h.st.1 (by have := h.len; omega) h0 h1
theorem pow_len {n : Nat} (h : n ≤ 6) : (1 : Int) ≤ 2 ^ n ∧ (2 : Int) ^ n ≤ 64 := by
  rcases (show n = 0 ∨ n = 1 ∨ n = 2 ∨ n = 3 ∨ n = 4 ∨ n = 5 ∨ n = 6 by omega) with rfl | rfl | rfl | rfl | rfl | rfl | rfl <;> decide
/-- Shifting and masking, as far as shades go. -/
theorem bit_shade : ∀ s : Nat, s < 64 → ∀ k : Nat, k < 6 → (IntKind.i64.wrap ((BitVec.ofInt IntKind.i64.bits (Int.fdiv (s : Int) (2 ^ (min k IntKind.i64.bits))) &&& BitVec.ofInt IntKind.i64.bits 1).toNat) == 1) = s.testBit k := by decide +kernel
end Go.Os

/- Part Ka. -/
namespace Go.Ok
open Go Go.RowKit Go.Pm Go.Oc Go.Oh Go.Os
/-- A clock. -/
structure Ck where
  temps : List Int
  rates : List Span
  age : Span
  err : Span
def Ck.cs (c : Ck) (tT tR : TV) : List TV := [tT, tR, .int .i64 c.age.lo, .int .i64 c.age.hi, .int .i64 c.err.lo, .int .i64 c.err.hi]
def Ck.t (c : Ck) (tT tR : TV) : TV := .agg (c.cs tT tR)
def tempAt (l : List Int) (k : Nat) : Int := l.getD k 0
theorem tempAt_eq {l : List Int} {k : Nat} {x : Int} (h : l[k]? = some x) : tempAt l k = x := by unfold tempAt; rw [List.getD_eq_getElem?_getD, h]; rfl
/-- The temperature before a place of the table; -1 before the first one. -/
def befT (l : List Int) : Nat → Int
  | 0 => -1
  | k + 1 => tempAt l k
def ckBase (c : Ck) : Bool := inB c.temps.length 2 8 && (decide ((c.rates.length : Int) = c.temps.length) && (spannedB c.age (-1000) 1000 && spannedB c.err (-10000000) 10000000))
def ckAt (c : Ck) (k : Nat) : Bool := inB (tempAt c.temps k) (befT c.temps k + 1) 60 && spannedB (atS c.rates k) (-100000) 100000
def ckPre (c : Ck) : Nat → Bool
  | 0 => ckBase c
  | k + 1 => ckPre c k && ckAt c k
def ckOk (c : Ck) : Bool := ckPre c c.temps.length
theorem ckPre_base {c : Ck} : ∀ {k : Nat}, ckPre c k = true → ckBase c = true
  | 0, h => h
  | k + 1, h => by
    unfold ckPre at h
    rw [Bool.and_eq_true] at h
    exact ckPre_base h.1
theorem kedivT {a b : Int} (h : 0 < b) : (if a.tmod b < 0 then a.tdiv b - 1 else a.tdiv b) = a / b := by
  have h1 := Int.mul_tdiv_add_tmod a b
  have h2 := Int.mul_ediv_add_emod a b
  have h3 := Int.emod_nonneg a (show b ≠ 0 by omega)
  have h4 := Int.emod_lt_of_pos a h
  have h5 : -b < a.tmod b ∧ a.tmod b < b := by
    have := Int.tmod_lt_of_pos a h
    have h6 := Int.tmod_lt_of_pos (-a) h
    rw [Int.neg_tmod] at h6
    omega
  by_cases hn : a.tmod b < 0
  · rw [if_pos hn]
    have e : b * (a.tdiv b - 1) + (a.tmod b + b) = a := by rw [Int.mul_sub]; omega
    have := (Int.ediv_emod_unique h (a := a) (r := a.tmod b + b) (q := a.tdiv b - 1)).2 ⟨by omega, by omega, by omega⟩
    exact this.1.symm
  · rw [if_neg hn]
    have := (Int.ediv_emod_unique h (a := a) (r := a.tmod b) (q := a.tdiv b)).2 ⟨by omega, by omega, by omega⟩
    exact this.1.symm
/-- The first place whose number is not below one. -/
def lowI (l : List Int) (t : Int) : Nat := (l.findIdx? (fun x => decide (t ≤ x))).getD l.length
theorem lowI_le (l : List Int) (t : Int) : lowI l t ≤ l.length := by
  unfold lowI
  cases h : l.findIdx? (fun x => decide (t ≤ x)) with
  | none => simp
  | some i => obtain ⟨hi, _⟩ := List.findIdx?_eq_some_iff_getElem.1 h; simp only [Option.getD_some]; omega
theorem lowI_below {l : List Int} {t : Int} {k : Nat} {x : Int} (h : k < lowI l t) (hx : l[k]? = some x) : x < t := by
  unfold lowI at h
  have hk := (List.getElem?_eq_some_iff.1 hx)
  obtain ⟨hk1, hk2⟩ := hk
  cases e : l.findIdx? (fun x => decide (t ≤ x)) with
  | none =>
    rw [List.findIdx?_eq_none_iff] at e
    have := e x (List.mem_of_getElem? hx)
    simpa using this
  | some i =>
    rw [e] at h
    obtain ⟨hi, h1, h2⟩ := List.findIdx?_eq_some_iff_getElem.1 e
    have := h2 k h
    rw [hk2] at this
    simpa using this
theorem lowI_at {l : List Int} {t : Int} (h : lowI l t < l.length) : t ≤ tempAt l (lowI l t) := by
  unfold lowI at h ⊢
  cases e : l.findIdx? (fun x => decide (t ≤ x)) with
  | none => rw [e] at h; simp at h
  | some i =>
    obtain ⟨hi, h1, h2⟩ := List.findIdx?_eq_some_iff_getElem.1 e
    simp only [Option.getD_some]
    rw [tempAt_eq (List.getElem?_eq_getElem hi)]
    simpa using h1
theorem lowI_above {l : List Int} {t : Int} (hs : l.Pairwise (· < ·)) {k : Nat} {x : Int} (h : lowI l t ≤ k) (hx : l[k]? = some x) : t ≤ x := by
  obtain ⟨hk, rfl⟩ := List.getElem?_eq_some_iff.1 hx
  have h1 := lowI_at (l := l) (t := t) (by omega)
  rw [tempAt_eq (List.getElem?_eq_getElem (show lowI l t < l.length by omega))] at h1
  rcases Nat.eq_or_lt_of_le h with e | hlt
  · simp only [e] at h1; exact h1
  · have := List.pairwise_iff_getElem.1 hs (lowI l t) k (by omega) hk hlt
    omega
end Go.Ok
namespace Go.Proofs.Ytadkjjnnnkfalaa
open Go.RowKit Go.Pm Go.Oc Go.Oh Go.Os Go.Ok
set_option maxRecDepth 100000
set_option linter.unusedVariables false
set_option maxHeartbeats 4000000

theorem kWithin_c (n lo hi : Int) : PCalls Try.prog 95 [.int .i64 n, .int .i64 lo, .int .i64 hi] (.bool (inB n lo hi)) := by
  refine pcalls_by Try.mixes noSpec_ok (fn := Try.f95) Try.func95 rfl (by kernel_rfl) (by show 3 ≤ _; decide) ?_
  cases h1 : decide (lo ≤ n) <;> cases h2 : decide (n ≤ hi) <;> simp (decide := true) (maxSteps := 4000000) only [go_sem, Nat.reduceAdd, Nat.reduceSub, Nat.reduceMul, Nat.reduceDiv, Nat.reduceMod, Nat.reduceLT, Nat.reduceLeDiff, Nat.reduceEqDiff, Nat.reduceBEq, Nat.reduceBNe, Nat.reduceGT, Int.reduceAdd, Int.reduceSub, Int.reduceMul, Int.reduceNeg, Int.reduceLT, Int.reduceLE, Int.reduceEq, Int.reduceNe, Int.reduceBEq, Int.reduceBNe, Int.reduceToNat, Int.reduceGT, Int.reduceGE, ↓reduceIte, decide_true, decide_false, eq_self, Nat.mul_one, Nat.zero_mul, Nat.one_mul, Int.le_refl, Nat.le_refl, Int.cast_ofNat_Int, Try.f95, h1, h2, inB]
noncomputable def ckWithin : List TV → Option TV
  | [.int .i64 n, .int .i64 lo, .int .i64 hi] => some (.bool (inB n lo hi))
  | _ => none
theorem ckWithin_ok : ∀ xs r, ckWithin xs = some r → PCalls Try.prog 95 xs r := by
  intro xs r h
  unfold ckWithin at h
  split at h
  · cases h; exact kWithin_c _ _ _
  · cases h
attribute [go_sem] ckWithin
theorem kSpanned_c (s : Span) (lo hi : Int) : PCalls Try.prog 96 [s.t, .int .i64 lo, .int .i64 hi] (.bool (spannedB s lo hi)) := by
  refine pcalls_by Try.mixes noSpec_ok (fn := Try.f96) Try.func96 rfl (by kernel_rfl) (by show 3 ≤ _; decide) ?_
  cases h1 : decide (lo ≤ s.lo) <;> cases h2 : decide (s.lo ≤ s.hi) <;> cases h3 : decide (s.hi ≤ hi) <;> simp (decide := true) (maxSteps := 4000000) only [go_sem, Nat.reduceAdd, Nat.reduceSub, Nat.reduceMul, Nat.reduceDiv, Nat.reduceMod, Nat.reduceLT, Nat.reduceLeDiff, Nat.reduceEqDiff, Nat.reduceBEq, Nat.reduceBNe, Nat.reduceGT, Int.reduceAdd, Int.reduceSub, Int.reduceMul, Int.reduceNeg, Int.reduceLT, Int.reduceLE, Int.reduceEq, Int.reduceNe, Int.reduceBEq, Int.reduceBNe, Int.reduceToNat, Int.reduceGT, Int.reduceGE, ↓reduceIte, decide_true, decide_false, eq_self, Nat.mul_one, Nat.zero_mul, Nat.one_mul, Int.le_refl, Nat.le_refl, Int.cast_ofNat_Int, Try.f96, h1, h2, h3, spannedB, Span.t, Span.cs]
noncomputable def ckSpanned : List TV → Option TV
  | [.agg [.int .i64 a, .int .i64 b], .int .i64 lo, .int .i64 hi] => some (.bool (spannedB ⟨a, b⟩ lo hi))
  | _ => none
theorem ckSpanned_ok : ∀ xs r, ckSpanned xs = some r → PCalls Try.prog 96 xs r := by
  intro xs r h
  unfold ckSpanned at h
  split at h
  · cases h; exact kSpanned_c ⟨_, _⟩ _ _
  · cases h
attribute [go_sem] ckSpanned
theorem kDown_c (a b : Int) (h : 0 < b) (ha : -1000000000000000 ≤ a ∧ a ≤ 1000000000000000) : PCalls Try.prog 148 [.int .i64 a, .int .i64 b] (.int .i64 (a / b)) := by
  have hb : ¬ b = 0 := by omega
  have h2 := kedivT (a := a) h
  have h3 : -1000000000000000 ≤ a / b ∧ a / b ≤ 1000000000000000 := by
    constructor
    · have := Int.le_ediv_of_mul_le (a := -1000000000000000) (b := a) (c := b) h (by
        have : (1000000000000000 : Int) * 1 ≤ 1000000000000000 * b := Int.mul_le_mul_of_nonneg_left (by omega) (by omega)
        rw [Int.neg_mul]
        rcases Int.lt_or_le a 0 with h' | h'
        · omega
        · omega)
      exact this
    · have := Int.ediv_le_of_le_mul (a := a) (b := 1000000000000000) (c := b) h (by
        have : (1000000000000000 : Int) * 1 ≤ 1000000000000000 * b := Int.mul_le_mul_of_nonneg_left (by omega) (by omega)
        omega)
      exact this
  have hw1 : IntKind.i64.wrap (a.tdiv b) = a.tdiv b := by
    split at h2 <;> rw [wrap_in (by omega) (by omega)]
  refine pcalls_by Try.mixes noSpec_ok (fn := Try.f148) Try.func148 rfl (by kernel_rfl) (by show 2 ≤ _; decide) ?_
  by_cases hm : a.tmod b < 0
  · rw [if_pos hm] at h2
    have hw2 : IntKind.i64.wrap (a.tdiv b - 1) = a / b := by rw [wrap_in (by omega) (by omega)]; exact h2
    simp (decide := true) (maxSteps := 4000000) only [go_sem, Nat.reduceAdd, Nat.reduceSub, Nat.reduceMul, Nat.reduceDiv, Nat.reduceMod, Nat.reduceLT, Nat.reduceLeDiff, Nat.reduceEqDiff, Nat.reduceBEq, Nat.reduceBNe, Nat.reduceGT, Int.reduceAdd, Int.reduceSub, Int.reduceMul, Int.reduceNeg, Int.reduceLT, Int.reduceLE, Int.reduceEq, Int.reduceNe, Int.reduceBEq, Int.reduceBNe, Int.reduceToNat, Int.reduceGT, Int.reduceGE, ↓reduceIte, decide_true, decide_false, eq_self, Nat.mul_one, Nat.zero_mul, Nat.one_mul, Int.le_refl, Nat.le_refl, Int.cast_ofNat_Int, Try.f148, hb, hm, hw1, hw2]
  · rw [if_neg hm] at h2
    have hw3 : IntKind.i64.wrap (a / b) = a / b := wrap_in (by omega) (by omega)
    simp (decide := true) (maxSteps := 4000000) only [go_sem, Nat.reduceAdd, Nat.reduceSub, Nat.reduceMul, Nat.reduceDiv, Nat.reduceMod, Nat.reduceLT, Nat.reduceLeDiff, Nat.reduceEqDiff, Nat.reduceBEq, Nat.reduceBNe, Nat.reduceGT, Int.reduceAdd, Int.reduceSub, Int.reduceMul, Int.reduceNeg, Int.reduceLT, Int.reduceLE, Int.reduceEq, Int.reduceNe, Int.reduceBEq, Int.reduceBNe, Int.reduceToNat, Int.reduceGT, Int.reduceGE, ↓reduceIte, decide_true, decide_false, eq_self, Nat.mul_one, Nat.zero_mul, Nat.one_mul, Int.le_refl, Nat.le_refl, Int.cast_ofNat_Int, Try.f148, hb, hm, hw1, h2, hw3]
noncomputable def ckDown : List TV → Option TV
  | [.int .i64 a, .int .i64 b] => if 0 < b ∧ (-1000000000000000 ≤ a ∧ a ≤ 1000000000000000) then some (.int .i64 (a / b)) else none
  | _ => none
theorem ckDown_ok : ∀ xs r, ckDown xs = some r → PCalls Try.prog 148 xs r := by
  intro xs r h
  unfold ckDown at h
  split at h
  · split at h
    · rename_i hc; cases h; exact kDown_c _ _ hc.1 hc.2
    · cases h
  · cases h
attribute [go_sem] ckDown
theorem kNaN_c (a : Int) : PCalls Try.prog 151 [.int .i64 a] (.bool false) := by
  refine pcalls_by Try.mixes noSpec_ok (fn := Try.f151) Try.func151 rfl (by kernel_rfl) (by show 1 ≤ _; decide) ?_
  simp (decide := true) (maxSteps := 4000000) only [go_sem, Nat.reduceAdd, Nat.reduceSub, Nat.reduceMul, Nat.reduceDiv, Nat.reduceMod, Nat.reduceLT, Nat.reduceLeDiff, Nat.reduceEqDiff, Nat.reduceBEq, Nat.reduceBNe, Nat.reduceGT, Int.reduceAdd, Int.reduceSub, Int.reduceMul, Int.reduceNeg, Int.reduceLT, Int.reduceLE, Int.reduceEq, Int.reduceNe, Int.reduceBEq, Int.reduceBNe, Int.reduceToNat, Int.reduceGT, Int.reduceGE, ↓reduceIte, decide_true, decide_false, eq_self, Nat.mul_one, Nat.zero_mul, Nat.one_mul, Int.le_refl, Nat.le_refl, Int.cast_ofNat_Int, Try.f151]
  simp
noncomputable def ckNaN : List TV → Option TV
  | [.int .i64 a] => some (.bool false)
  | _ => none
theorem ckNaN_ok : ∀ xs r, ckNaN xs = some r → PCalls Try.prog 151 xs r := by
  intro xs r h
  unfold ckNaN at h
  split at h
  · cases h; exact kNaN_c _
  · cases h
attribute [go_sem] ckNaN
noncomputable def spKn : Pm.Spec := noSpec.one 151 ckNaN
@[go_sem] theorem spKn_p (f : FuncId) (xs : List TV) : spKn.p f xs = Pm.Spec.p (noSpec.one 151 ckNaN) f xs := rfl
@[go_sem] theorem spKn_h (f : FuncId) (ps : List PV) (hl : List PO) : spKn.h f ps hl = Pm.Spec.h (noSpec.one 151 ckNaN) f ps hl := rfl
@[go_sem] theorem spKn_y (Y : Pm.YS) (f : FuncId) (ps : List PV) (hl : List PO) : spKn.y Y f ps hl = Pm.Spec.y (noSpec.one 151 ckNaN) Y f ps hl := rfl
@[go_sem] theorem spKn_fz (f : FuncId) : spKn.fz f = Pm.Spec.fz (noSpec.one 151 ckNaN) f := rfl
@[go_sem] theorem spKn_fr (f : FuncId) : spKn.fr f = Pm.Spec.fr (noSpec.one 151 ckNaN) f := rfl
@[go_sem] theorem spKn_yf (f : FuncId) : spKn.yf f = Pm.Spec.yf (noSpec.one 151 ckNaN) f := rfl
@[go_sem] theorem spKn_mu (t : TypeId) : spKn.mu t = Pm.Spec.mu (noSpec.one 151 ckNaN) t := rfl
@[go_sem] theorem spKn_nf (t : TypeId) : spKn.nf t = Pm.Spec.nf (noSpec.one 151 ckNaN) t := rfl
theorem spKn_ok : SpecOk Try.prog spKn := Spec.one_ok ckNaN_ok noSpec_ok
theorem kLess_c (a b : Int) : PCalls Try.prog 149 [.int .i64 a, .int .i64 b] (.bool (decide (a < b))) := by
  refine pcalls_by Try.mixes spKn_ok (fn := Try.f149) Try.func149 rfl (by kernel_rfl) (by show 2 ≤ _; decide) ?_
  simp (decide := true) (maxSteps := 4000000) only [go_sem, Nat.reduceAdd, Nat.reduceSub, Nat.reduceMul, Nat.reduceDiv, Nat.reduceMod, Nat.reduceLT, Nat.reduceLeDiff, Nat.reduceEqDiff, Nat.reduceBEq, Nat.reduceBNe, Nat.reduceGT, Int.reduceAdd, Int.reduceSub, Int.reduceMul, Int.reduceNeg, Int.reduceLT, Int.reduceLE, Int.reduceEq, Int.reduceNe, Int.reduceBEq, Int.reduceBNe, Int.reduceToNat, Int.reduceGT, Int.reduceGE, ↓reduceIte, decide_true, decide_false, eq_self, Nat.mul_one, Nat.zero_mul, Nat.one_mul, Int.le_refl, Nat.le_refl, Int.cast_ofNat_Int, Try.f149]
noncomputable def ckLess : List TV → Option TV
  | [.int .i64 a, .int .i64 b] => some (.bool (decide (a < b)))
  | _ => none
theorem ckLess_ok : ∀ xs r, ckLess xs = some r → PCalls Try.prog 149 xs r := by
  intro xs r h
  unfold ckLess at h
  split at h
  · cases h; exact kLess_c _ _
  · cases h
attribute [go_sem] ckLess
theorem kNaN2_c (a : Int) : PCalls Try.prog 150 [.int .i64 a] (.bool false) := by
  refine pcalls_by Try.mixes noSpec_ok (fn := Try.f150) Try.func150 rfl (by kernel_rfl) (by show 1 ≤ _; decide) ?_
  simp (decide := true) (maxSteps := 4000000) only [go_sem, Nat.reduceAdd, Nat.reduceSub, Nat.reduceMul, Nat.reduceDiv, Nat.reduceMod, Nat.reduceLT, Nat.reduceLeDiff, Nat.reduceEqDiff, Nat.reduceBEq, Nat.reduceBNe, Nat.reduceGT, Int.reduceAdd, Int.reduceSub, Int.reduceMul, Int.reduceNeg, Int.reduceLT, Int.reduceLE, Int.reduceEq, Int.reduceNe, Int.reduceBEq, Int.reduceBNe, Int.reduceToNat, Int.reduceGT, Int.reduceGE, ↓reduceIte, decide_true, decide_false, eq_self, Nat.mul_one, Nat.zero_mul, Nat.one_mul, Int.le_refl, Nat.le_refl, Int.cast_ofNat_Int, Try.f150]
  simp
noncomputable def ckNaN2 : List TV → Option TV
  | [.int .i64 a] => some (.bool false)
  | _ => none
theorem ckNaN2_ok : ∀ xs r, ckNaN2 xs = some r → PCalls Try.prog 150 xs r := by
  intro xs r h
  unfold ckNaN2 at h
  split at h
  · cases h; exact kNaN2_c _
  · cases h
attribute [go_sem] ckNaN2
noncomputable def spKa : Pm.Spec := ((((noSpec.one 95 ckWithin).one 96 ckSpanned).one 148 ckDown).one 149 ckLess).one 150 ckNaN2
@[go_sem] theorem spKa_p (f : FuncId) (xs : List TV) : spKa.p f xs = Pm.Spec.p (((((noSpec.one 95 ckWithin).one 96 ckSpanned).one 148 ckDown).one 149 ckLess).one 150 ckNaN2) f xs := rfl
@[go_sem] theorem spKa_h (f : FuncId) (ps : List PV) (hl : List PO) : spKa.h f ps hl = Pm.Spec.h (((((noSpec.one 95 ckWithin).one 96 ckSpanned).one 148 ckDown).one 149 ckLess).one 150 ckNaN2) f ps hl := rfl
@[go_sem] theorem spKa_y (Y : Pm.YS) (f : FuncId) (ps : List PV) (hl : List PO) : spKa.y Y f ps hl = Pm.Spec.y (((((noSpec.one 95 ckWithin).one 96 ckSpanned).one 148 ckDown).one 149 ckLess).one 150 ckNaN2) Y f ps hl := rfl
@[go_sem] theorem spKa_fz (f : FuncId) : spKa.fz f = Pm.Spec.fz (((((noSpec.one 95 ckWithin).one 96 ckSpanned).one 148 ckDown).one 149 ckLess).one 150 ckNaN2) f := rfl
@[go_sem] theorem spKa_fr (f : FuncId) : spKa.fr f = Pm.Spec.fr (((((noSpec.one 95 ckWithin).one 96 ckSpanned).one 148 ckDown).one 149 ckLess).one 150 ckNaN2) f := rfl
@[go_sem] theorem spKa_yf (f : FuncId) : spKa.yf f = Pm.Spec.yf (((((noSpec.one 95 ckWithin).one 96 ckSpanned).one 148 ckDown).one 149 ckLess).one 150 ckNaN2) f := rfl
@[go_sem] theorem spKa_mu (t : TypeId) : spKa.mu t = Pm.Spec.mu (((((noSpec.one 95 ckWithin).one 96 ckSpanned).one 148 ckDown).one 149 ckLess).one 150 ckNaN2) t := rfl
@[go_sem] theorem spKa_nf (t : TypeId) : spKa.nf t = Pm.Spec.nf (((((noSpec.one 95 ckWithin).one 96 ckSpanned).one 148 ckDown).one 149 ckLess).one 150 ckNaN2) t := rfl
theorem spKa_ok : SpecOk Try.prog spKa := Spec.one_ok ckNaN2_ok (Spec.one_ok ckLess_ok (Spec.one_ok ckDown_ok (Spec.one_ok ckSpanned_ok (Spec.one_ok ckWithin_ok noSpec_ok))))

/-- Searching a row that increases. -/
theorem kSearch_c {l : List Int} (f : Bool) (t : Int) (hs : l.Pairwise (· < ·)) (hl : l.length ≤ 1000) (hlt : lowI l t < l.length) : PCalls Try.prog 147 [.sl (ints l) l.length f, .int .i64 t] (.tup [.int .i64 (lowI l t), .bool (decide (tempAt l (lowI l t) = t))]) := by
  have hle := lowI_le l t
  refine pcalls_by Try.mixes spKa_ok (fn := Try.f147) Try.func147 rfl (by kernel_rfl) (by show 2 ≤ _; decide) ?_
  simp (decide := true) (maxSteps := 4000000) only [go_sem, Nat.reduceAdd, Nat.reduceSub, Nat.reduceMul, Nat.reduceDiv, Nat.reduceMod, Nat.reduceLT, Nat.reduceLeDiff, Nat.reduceEqDiff, Nat.reduceBEq, Nat.reduceBNe, Nat.reduceGT, Int.reduceAdd, Int.reduceSub, Int.reduceMul, Int.reduceNeg, Int.reduceLT, Int.reduceLE, Int.reduceEq, Int.reduceNe, Int.reduceBEq, Int.reduceBNe, Int.reduceToNat, Int.reduceGT, Int.reduceGE, ↓reduceIte, decide_true, decide_false, eq_self, Nat.mul_one, Nat.zero_mul, Nat.one_mul, Int.le_refl, Nat.le_refl, Int.cast_ofNat_Int, Try.f147]
  refine pwpC_loopU (A := { p : Nat × Nat // p.1 ≤ lowI l t ∧ lowI l t ≤ p.2 ∧ p.2 ≤ l.length }) [0, 1, 4, 5, 6] (fun p => [(7, .t (.int .i64 p.1.1)), (8, .t (.int .i64 p.1.2))]) (fun _ => []) (fun p => p.1.2 - p.1.1) ⟨(0, l.length), by simp, hle, by simp⟩ (by decide) (fun _ => by rfl) ?_ fun Q1 hQ1 ⟨⟨i, j⟩, h1, h2, h3⟩ I1 hI1 => ?_
  · simp (decide := true) (maxSteps := 4000000) only [go_sem, Nat.reduceAdd, Nat.reduceSub, Nat.reduceMul, Nat.reduceDiv, Nat.reduceMod, Nat.reduceLT, Nat.reduceLeDiff, Nat.reduceEqDiff, Nat.reduceBEq, Nat.reduceBNe, Nat.reduceGT, Int.reduceAdd, Int.reduceSub, Int.reduceMul, Int.reduceNeg, Int.reduceLT, Int.reduceLE, Int.reduceEq, Int.reduceNe, Int.reduceBEq, Int.reduceBNe, Int.reduceToNat, Int.reduceGT, Int.reduceGE, ↓reduceIte, decide_true, decide_false, eq_self, Nat.mul_one, Nat.zero_mul, Nat.one_mul, Int.le_refl, Nat.le_refl, Int.cast_ofNat_Int]
  · simp only at h1 h2 h3
    by_cases hij : (i : Int) < j
    · have e0 : IntKind.i64.wrap ((i : Int) + j) = ((i + j : Nat) : Int) := by rw [wrap_in (by omega) (by omega)]; omega
      have e1 : IntKind.u64.wrap ((i + j : Nat) : Int) = ((i + j : Nat) : Int) := by
        unfold IntKind.wrap
        simp only [IntKind.bits, IntKind.signed, Bool.false_and, Bool.false_eq_true, if_false]
        omega
      have e2 : Int.fdiv ((i + j : Nat) : Int) (2 ^ min 1 64) = (((i + j) / 2 : Nat) : Int) := by
        show Int.fdiv ((i + j : Nat) : Int) 2 = _
        rw [Int.fdiv_eq_ediv_of_nonneg _ (by omega)]; omega
      have e3 : IntKind.i64.wrap (((i + j) / 2 : Nat) : Int) = (((i + j) / 2 : Nat) : Int) := wrap_in (by omega) (by omega)
      obtain ⟨h, hh⟩ : ∃ h, (i + j) / 2 = h := ⟨_, rfl⟩
      rw [hh] at e2 e3
      have hhl : h < l.length := by omega
      have hhi : (h : Int) < l.length := by omega
      obtain ⟨x, hx⟩ : ∃ x, l[h]? = some x := ⟨_, List.getElem?_eq_getElem hhl⟩
      have hd := ints_at hx
      rw [Nat.mul_one] at hd
      have hw : IntKind.i64.wrap ((h : Int) + 1) = ((h + 1 : Nat) : Int) := by rw [wrap_in (by omega) (by omega)]; omega
      by_cases hxt : x < t
      · have : h < lowI l t := by
          rcases Nat.lt_or_ge h (lowI l t) with h' | h'
          · exact h'
          · have := lowI_above hs h' hx; omega
        simp (decide := true) (maxSteps := 4000000) only [go_sem, Nat.reduceAdd, Nat.reduceSub, Nat.reduceMul, Nat.reduceDiv, Nat.reduceMod, Nat.reduceLT, Nat.reduceLeDiff, Nat.reduceEqDiff, Nat.reduceBEq, Nat.reduceBNe, Nat.reduceGT, Int.reduceAdd, Int.reduceSub, Int.reduceMul, Int.reduceNeg, Int.reduceLT, Int.reduceLE, Int.reduceEq, Int.reduceNe, Int.reduceBEq, Int.reduceBNe, Int.reduceToNat, Int.reduceGT, Int.reduceGE, ↓reduceIte, decide_true, decide_false, eq_self, Nat.mul_one, Nat.zero_mul, Nat.one_mul, Int.le_refl, Nat.le_refl, Int.cast_ofNat_Int, hij, e0, e1, e2, e3, hd, hxt, hhl, hhi, hw, IntKind.bits]
        refine hI1 _ ⟨(h + 1, j), by simp only; omega, h2, h3⟩ (by simp only; omega) ?_
        simp (decide := true) (maxSteps := 4000000) only [go_sem, Nat.reduceAdd, Nat.reduceSub, Nat.reduceMul, Nat.reduceDiv, Nat.reduceMod, Nat.reduceLT, Nat.reduceLeDiff, Nat.reduceEqDiff, Nat.reduceBEq, Nat.reduceBNe, Nat.reduceGT, Int.reduceAdd, Int.reduceSub, Int.reduceMul, Int.reduceNeg, Int.reduceLT, Int.reduceLE, Int.reduceEq, Int.reduceNe, Int.reduceBEq, Int.reduceBNe, Int.reduceToNat, Int.reduceGT, Int.reduceGE, ↓reduceIte, decide_true, decide_false, eq_self, Nat.mul_one, Nat.zero_mul, Nat.one_mul, Int.le_refl, Nat.le_refl, Int.cast_ofNat_Int, hw]
      · have : lowI l t ≤ h := by
          rcases Nat.lt_or_ge h (lowI l t) with h' | h'
          · have := lowI_below h' hx; omega
          · exact h'
        simp (decide := true) (maxSteps := 4000000) only [go_sem, Nat.reduceAdd, Nat.reduceSub, Nat.reduceMul, Nat.reduceDiv, Nat.reduceMod, Nat.reduceLT, Nat.reduceLeDiff, Nat.reduceEqDiff, Nat.reduceBEq, Nat.reduceBNe, Nat.reduceGT, Int.reduceAdd, Int.reduceSub, Int.reduceMul, Int.reduceNeg, Int.reduceLT, Int.reduceLE, Int.reduceEq, Int.reduceNe, Int.reduceBEq, Int.reduceBNe, Int.reduceToNat, Int.reduceGT, Int.reduceGE, ↓reduceIte, decide_true, decide_false, eq_self, Nat.mul_one, Nat.zero_mul, Nat.one_mul, Int.le_refl, Nat.le_refl, Int.cast_ofNat_Int, hij, e0, e1, e2, e3, hd, hxt, hhl, hhi, IntKind.bits]
        refine hI1 _ ⟨(i, h), h1, this, by simp only; omega⟩ (by simp only; omega) ?_
        simp (decide := true) (maxSteps := 4000000) only [go_sem, Nat.reduceAdd, Nat.reduceSub, Nat.reduceMul, Nat.reduceDiv, Nat.reduceMod, Nat.reduceLT, Nat.reduceLeDiff, Nat.reduceEqDiff, Nat.reduceBEq, Nat.reduceBNe, Nat.reduceGT, Int.reduceAdd, Int.reduceSub, Int.reduceMul, Int.reduceNeg, Int.reduceLT, Int.reduceLE, Int.reduceEq, Int.reduceNe, Int.reduceBEq, Int.reduceBNe, Int.reduceToNat, Int.reduceGT, Int.reduceGE, ↓reduceIte, decide_true, decide_false, eq_self, Nat.mul_one, Nat.zero_mul, Nat.one_mul, Int.le_refl, Nat.le_refl, Int.cast_ofNat_Int]
    · have : i = lowI l t := by omega
      subst this
      simp (decide := true) (maxSteps := 4000000) only [go_sem, Nat.reduceAdd, Nat.reduceSub, Nat.reduceMul, Nat.reduceDiv, Nat.reduceMod, Nat.reduceLT, Nat.reduceLeDiff, Nat.reduceEqDiff, Nat.reduceBEq, Nat.reduceBNe, Nat.reduceGT, Int.reduceAdd, Int.reduceSub, Int.reduceMul, Int.reduceNeg, Int.reduceLT, Int.reduceLE, Int.reduceEq, Int.reduceNe, Int.reduceBEq, Int.reduceBNe, Int.reduceToNat, Int.reduceGT, Int.reduceGE, ↓reduceIte, decide_true, decide_false, eq_self, Nat.mul_one, Nat.zero_mul, Nat.one_mul, Int.le_refl, Nat.le_refl, Int.cast_ofNat_Int, hij]
      refine hQ1 _ _ ?_
      obtain ⟨x, hx⟩ : ∃ x, l[lowI l t]? = some x := ⟨_, List.getElem?_eq_getElem hlt⟩
      have hd := ints_at hx
      rw [Nat.mul_one] at hd
      have ht := tempAt_eq hx
      have hltI : (lowI l t : Int) < l.length := by omega
      cases hxt : (x == t) with
      | true =>
        have : x = t := by simpa using hxt
        simp (decide := true) (maxSteps := 4000000) only [go_sem, Nat.reduceAdd, Nat.reduceSub, Nat.reduceMul, Nat.reduceDiv, Nat.reduceMod, Nat.reduceLT, Nat.reduceLeDiff, Nat.reduceEqDiff, Nat.reduceBEq, Nat.reduceBNe, Nat.reduceGT, Int.reduceAdd, Int.reduceSub, Int.reduceMul, Int.reduceNeg, Int.reduceLT, Int.reduceLE, Int.reduceEq, Int.reduceNe, Int.reduceBEq, Int.reduceBNe, Int.reduceToNat, Int.reduceGT, Int.reduceGE, ↓reduceIte, decide_true, decide_false, eq_self, Nat.mul_one, Nat.zero_mul, Nat.one_mul, Int.le_refl, Nat.le_refl, Int.cast_ofNat_Int, hltI, hlt, hd, hxt, ht, this]
      | false =>
        have : ¬ x = t := by simpa using hxt
        simp (decide := true) (maxSteps := 4000000) only [go_sem, Nat.reduceAdd, Nat.reduceSub, Nat.reduceMul, Nat.reduceDiv, Nat.reduceMod, Nat.reduceLT, Nat.reduceLeDiff, Nat.reduceEqDiff, Nat.reduceBEq, Nat.reduceBNe, Nat.reduceGT, Int.reduceAdd, Int.reduceSub, Int.reduceMul, Int.reduceNeg, Int.reduceLT, Int.reduceLE, Int.reduceEq, Int.reduceNe, Int.reduceBEq, Int.reduceBNe, Int.reduceToNat, Int.reduceGT, Int.reduceGE, ↓reduceIte, decide_true, decide_false, eq_self, Nat.mul_one, Nat.zero_mul, Nat.one_mul, Int.le_refl, Nat.le_refl, Int.cast_ofNat_Int, hltI, hlt, hd, hxt, ht, this]
noncomputable def ckSearch : List TV → Option TV
  | [.sl cs n f, .int .i64 t] => match unI cs with
    | some l => if (n = l.length ∧ l.length ≤ 1000) ∧ (l.Pairwise (· < ·) ∧ lowI l t < l.length) then some (.tup [.int .i64 (lowI l t), .bool (decide (tempAt l (lowI l t) = t))]) else none
    | none => none
  | _ => none
theorem ckSearch_ok : ∀ xs r, ckSearch xs = some r → PCalls Try.prog 147 xs r := by
  intro xs r h
  unfold ckSearch at h
  split at h
  · split at h
    · rename_i l hl
      split at h
      · rename_i hc; cases h
        obtain ⟨⟨rfl, h1⟩, h2, h3⟩ := hc
        have e := unI_some hl
        rw [ic_ints] at e
        subst e
        exact kSearch_c _ _ h2 h1 h3
      · cases h
    · cases h
  · cases h
attribute [go_sem] ckSearch
noncomputable def spKb : Pm.Spec := spKa.one 147 ckSearch
@[go_sem] theorem spKb_p (f : FuncId) (xs : List TV) : spKb.p f xs = Pm.Spec.p (spKa.one 147 ckSearch) f xs := rfl
@[go_sem] theorem spKb_h (f : FuncId) (ps : List PV) (hl : List PO) : spKb.h f ps hl = Pm.Spec.h (spKa.one 147 ckSearch) f ps hl := rfl
@[go_sem] theorem spKb_y (Y : Pm.YS) (f : FuncId) (ps : List PV) (hl : List PO) : spKb.y Y f ps hl = Pm.Spec.y (spKa.one 147 ckSearch) Y f ps hl := rfl
@[go_sem] theorem spKb_fz (f : FuncId) : spKb.fz f = Pm.Spec.fz (spKa.one 147 ckSearch) f := rfl
@[go_sem] theorem spKb_fr (f : FuncId) : spKb.fr f = Pm.Spec.fr (spKa.one 147 ckSearch) f := rfl
@[go_sem] theorem spKb_yf (f : FuncId) : spKb.yf f = Pm.Spec.yf (spKa.one 147 ckSearch) f := rfl
@[go_sem] theorem spKb_mu (t : TypeId) : spKb.mu t = Pm.Spec.mu (spKa.one 147 ckSearch) t := rfl
@[go_sem] theorem spKb_nf (t : TypeId) : spKb.nf t = Pm.Spec.nf (spKa.one 147 ckSearch) t := rfl
theorem spKb_ok : SpecOk Try.prog spKb := Spec.one_ok ckSearch_ok spKa_ok
end Go.Proofs.Ytadkjjnnnkfalaa

/- Part Kb. -/
namespace Go.Ok
open Go Go.RowKit Go.Pm Go.Oc Go.Oh Go.Os
theorem ckPre_last {c : Ck} : ∀ {k : Nat}, ckPre c k = true → -1 ≤ befT c.temps k ∧ befT c.temps k ≤ 60
  | 0, _ => by show -1 ≤ (-1 : Int) ∧ (-1 : Int) ≤ 60; omega
  | k + 1, h => by
    unfold ckPre at h
    rw [Bool.and_eq_true] at h
    have h1 := ckPre_last h.1
    have h2 := h.2
    unfold ckAt at h2
    rw [Bool.and_eq_true] at h2
    have := inB_iff.1 h2.1
    show -1 ≤ tempAt c.temps k ∧ tempAt c.temps k ≤ 60
    omega
theorem ckBase_len {c : Ck} (h : ckBase c = true) : c.rates.length = c.temps.length ∧ 2 ≤ c.temps.length ∧ c.temps.length ≤ 8 ∧ spannedB c.age (-1000) 1000 = true ∧ spannedB c.err (-10000000) 10000000 = true := by
  unfold ckBase at h
  simp only [Bool.and_eq_true, decide_eq_true_eq] at h
  have := inB_iff.1 h.1
  exact ⟨by omega, by omega, by omega, h.2.2.1, h.2.2.2⟩
end Go.Ok
namespace Go.Proofs.Ytadkjjnnnkfalaa
open Go.RowKit Go.Pm Go.Oc Go.Oh Go.Os Go.Ok
set_option maxRecDepth 100000
set_option linter.unusedVariables false
set_option maxHeartbeats 4000000

theorem kCheck_c (c : Ck) {tT tR : TV} (hT : IsRow ic tT c.temps) (hR : IsRow Span.cs tR c.rates) (h1 : c.temps.length ≤ 17592186044415) (h2 : c.rates.length ≤ 17592186044415) : PCalls Try.prog 94 [c.t tT tR] (.int .i64 (if ckOk c then 0 else 70)) := by
  obtain ⟨temps, rates, ⟨a0, a1⟩, ⟨e0, e1⟩⟩ := c
  simp only at *
  refine pcalls_by Try.mixes spKa_ok (fn := Try.f94) Try.func94 rfl (by kernel_rfl) (by show 1 ≤ _; decide) ?_
  rcases hT with ⟨rfl, rfl⟩ | ⟨fT, rfl⟩
  · have hb : ckOk ⟨[], rates, ⟨a0, a1⟩, ⟨e0, e1⟩⟩ = false := rfl
    have hi : inB 0 2 8 = false := rfl
    rw [hb]
    rcases hR with ⟨rfl, rfl⟩ | ⟨fR, rfl⟩
    all_goals
      simp (decide := true) (maxSteps := 4000000) only [go_sem, Nat.reduceAdd, Nat.reduceSub, Nat.reduceMul, Nat.reduceDiv, Nat.reduceMod, Nat.reduceLT, Nat.reduceLeDiff, Nat.reduceEqDiff, Nat.reduceBEq, Nat.reduceBNe, Nat.reduceGT, Int.reduceAdd, Int.reduceSub, Int.reduceMul, Int.reduceNeg, Int.reduceLT, Int.reduceLE, Int.reduceEq, Int.reduceNe, Int.reduceBEq, Int.reduceBNe, Int.reduceToNat, Int.reduceGT, Int.reduceGE, ↓reduceIte, decide_true, decide_false, eq_self, Nat.mul_one, Nat.zero_mul, Nat.one_mul, Int.le_refl, Nat.le_refl, Int.cast_ofNat_Int, Try.f94, Ck.t, Ck.cs, hi]
      refine pwpC_loopU (A := Unit) [1, 2, 3, 31, 32] (fun _ => [(33, .t (.int .i64 0))]) (fun _ => []) (fun _ => 0) () (by decide) (fun _ => by rfl) ?_ fun Q1 hQ1 _ I1 hI1 => ?_
      · simp (decide := true) (maxSteps := 4000000) only [go_sem, Nat.reduceAdd, Nat.reduceSub, Nat.reduceMul, Nat.reduceDiv, Nat.reduceMod, Nat.reduceLT, Nat.reduceLeDiff, Nat.reduceEqDiff, Nat.reduceBEq, Nat.reduceBNe, Nat.reduceGT, Int.reduceAdd, Int.reduceSub, Int.reduceMul, Int.reduceNeg, Int.reduceLT, Int.reduceLE, Int.reduceEq, Int.reduceNe, Int.reduceBEq, Int.reduceBNe, Int.reduceToNat, Int.reduceGT, Int.reduceGE, ↓reduceIte, decide_true, decide_false, eq_self, Nat.mul_one, Nat.zero_mul, Nat.one_mul, Int.le_refl, Nat.le_refl, Int.cast_ofNat_Int]
      · simp (decide := true) (maxSteps := 4000000) only [go_sem, Nat.reduceAdd, Nat.reduceSub, Nat.reduceMul, Nat.reduceDiv, Nat.reduceMod, Nat.reduceLT, Nat.reduceLeDiff, Nat.reduceEqDiff, Nat.reduceBEq, Nat.reduceBNe, Nat.reduceGT, Int.reduceAdd, Int.reduceSub, Int.reduceMul, Int.reduceNeg, Int.reduceLT, Int.reduceLE, Int.reduceEq, Int.reduceNe, Int.reduceBEq, Int.reduceBNe, Int.reduceToNat, Int.reduceGT, Int.reduceGE, ↓reduceIte, decide_true, decide_false, eq_self, Nat.mul_one, Nat.zero_mul, Nat.one_mul, Int.le_refl, Nat.le_refl, Int.cast_ofNat_Int]
        refine hQ1 _ _ ?_
        simp (decide := true) (maxSteps := 4000000) only [go_sem, Nat.reduceAdd, Nat.reduceSub, Nat.reduceMul, Nat.reduceDiv, Nat.reduceMod, Nat.reduceLT, Nat.reduceLeDiff, Nat.reduceEqDiff, Nat.reduceBEq, Nat.reduceBNe, Nat.reduceGT, Int.reduceAdd, Int.reduceSub, Int.reduceMul, Int.reduceNeg, Int.reduceLT, Int.reduceLE, Int.reduceEq, Int.reduceNe, Int.reduceBEq, Int.reduceBNe, Int.reduceToNat, Int.reduceGT, Int.reduceGE, ↓reduceIte, decide_true, decide_false, eq_self, Nat.mul_one, Nat.zero_mul, Nat.one_mul, Int.le_refl, Nat.le_refl, Int.cast_ofNat_Int]
  · have hbase : ∃ b, ckBase ⟨temps, rates, ⟨a0, a1⟩, ⟨e0, e1⟩⟩ = b := ⟨_, rfl⟩
    obtain ⟨b, hb⟩ := hbase
    have start : ∀ s : CS → Prop, s = s := fun _ => rfl
    have hb' := hb
    unfold ckBase at hb'
    simp only at hb'
    rw [ic_ints]
    rcases hR with ⟨rfl, rfl⟩ | ⟨fR, rfl⟩
    · have hbf : b = false := by
        cases b with
        | false => rfl
        | true => have := ckBase_len hb; simp only at this; have h0 : ([] : List Span).length = 0 := rfl; omega
      subst hbf
      have hpre : ∀ k, ckPre ⟨temps, [], ⟨a0, a1⟩, ⟨e0, e1⟩⟩ k = false := fun k => by
        cases h : ckPre ⟨temps, [], ⟨a0, a1⟩, ⟨e0, e1⟩⟩ k with
        | false => rfl
        | true => have := ckPre_base h; rw [hb] at this; cases this
      have hok : ckOk ⟨temps, [], ⟨a0, a1⟩, ⟨e0, e1⟩⟩ = false := hpre _
      rw [hok]
      have hz : ∀ p : Bool, inB (temps.length : Int) 2 8 = p → p = true → ((0 : Int) == (temps.length : Int)) = false := fun p hp hp' => by
        subst hp'
        have := inB_iff.1 hp
        exact beq_false_of_ne (by omega)
      cases hi : inB (temps.length : Int) 2 8
      · simp (decide := true) (maxSteps := 4000000) only [go_sem, Nat.reduceAdd, Nat.reduceSub, Nat.reduceMul, Nat.reduceDiv, Nat.reduceMod, Nat.reduceLT, Nat.reduceLeDiff, Nat.reduceEqDiff, Nat.reduceBEq, Nat.reduceBNe, Nat.reduceGT, Int.reduceAdd, Int.reduceSub, Int.reduceMul, Int.reduceNeg, Int.reduceLT, Int.reduceLE, Int.reduceEq, Int.reduceNe, Int.reduceBEq, Int.reduceBNe, Int.reduceToNat, Int.reduceGT, Int.reduceGE, ↓reduceIte, decide_true, decide_false, eq_self, Nat.mul_one, Nat.zero_mul, Nat.one_mul, Int.le_refl, Nat.le_refl, Int.cast_ofNat_Int, Try.f94, Ck.t, Ck.cs, hi]
        refine pwpC_loopU (A := { k : Nat // k ≤ temps.length }) [1, 2, 3, 31, 32] (fun k => [(33, .t (.int .i64 k.1)), (4, .t (.int .i64 (befT temps k.1)))]) (fun _ => []) (fun k => temps.length - k.1) ⟨0, by omega⟩ (by decide) (fun _ => by rfl) ?_ fun Q1 hQ1 ⟨k, hk⟩ I1 hI1 => ?_
        · simp (decide := true) (maxSteps := 4000000) only [go_sem, Nat.reduceAdd, Nat.reduceSub, Nat.reduceMul, Nat.reduceDiv, Nat.reduceMod, Nat.reduceLT, Nat.reduceLeDiff, Nat.reduceEqDiff, Nat.reduceBEq, Nat.reduceBNe, Nat.reduceGT, Int.reduceAdd, Int.reduceSub, Int.reduceMul, Int.reduceNeg, Int.reduceLT, Int.reduceLE, Int.reduceEq, Int.reduceNe, Int.reduceBEq, Int.reduceBNe, Int.reduceToNat, Int.reduceGT, Int.reduceGE, ↓reduceIte, decide_true, decide_false, eq_self, Nat.mul_one, Nat.zero_mul, Nat.one_mul, Int.le_refl, Nat.le_refl, Int.cast_ofNat_Int, befT]
        · by_cases hlt : (k : Int) < temps.length
          · obtain ⟨x, hx⟩ := get_lt hlt
            have hd := ints_at hx
            rw [Nat.mul_one] at hd
            have hw : IntKind.i64.wrap ((k : Int) + 1) = ((k + 1 : Nat) : Int) := by rw [wrap_in (by omega) (by omega)]; omega
            simp (decide := true) (maxSteps := 4000000) only [go_sem, Nat.reduceAdd, Nat.reduceSub, Nat.reduceMul, Nat.reduceDiv, Nat.reduceMod, Nat.reduceLT, Nat.reduceLeDiff, Nat.reduceEqDiff, Nat.reduceBEq, Nat.reduceBNe, Nat.reduceGT, Int.reduceAdd, Int.reduceSub, Int.reduceMul, Int.reduceNeg, Int.reduceLT, Int.reduceLE, Int.reduceEq, Int.reduceNe, Int.reduceBEq, Int.reduceBNe, Int.reduceToNat, Int.reduceGT, Int.reduceGE, ↓reduceIte, decide_true, decide_false, eq_self, Nat.mul_one, Nat.zero_mul, Nat.one_mul, Int.le_refl, Nat.le_refl, Int.cast_ofNat_Int, hlt, hd]
            refine hI1 _ ⟨k + 1, by omega⟩ (by simp only; omega) ?_
            simp (decide := true) (maxSteps := 4000000) only [go_sem, Nat.reduceAdd, Nat.reduceSub, Nat.reduceMul, Nat.reduceDiv, Nat.reduceMod, Nat.reduceLT, Nat.reduceLeDiff, Nat.reduceEqDiff, Nat.reduceBEq, Nat.reduceBNe, Nat.reduceGT, Int.reduceAdd, Int.reduceSub, Int.reduceMul, Int.reduceNeg, Int.reduceLT, Int.reduceLE, Int.reduceEq, Int.reduceNe, Int.reduceBEq, Int.reduceBNe, Int.reduceToNat, Int.reduceGT, Int.reduceGE, ↓reduceIte, decide_true, decide_false, eq_self, Nat.mul_one, Nat.zero_mul, Nat.one_mul, Int.le_refl, Nat.le_refl, Int.cast_ofNat_Int, hw, befT, tempAt_eq hx]
          · simp (decide := true) (maxSteps := 4000000) only [go_sem, Nat.reduceAdd, Nat.reduceSub, Nat.reduceMul, Nat.reduceDiv, Nat.reduceMod, Nat.reduceLT, Nat.reduceLeDiff, Nat.reduceEqDiff, Nat.reduceBEq, Nat.reduceBNe, Nat.reduceGT, Int.reduceAdd, Int.reduceSub, Int.reduceMul, Int.reduceNeg, Int.reduceLT, Int.reduceLE, Int.reduceEq, Int.reduceNe, Int.reduceBEq, Int.reduceBNe, Int.reduceToNat, Int.reduceGT, Int.reduceGE, ↓reduceIte, decide_true, decide_false, eq_self, Nat.mul_one, Nat.zero_mul, Nat.one_mul, Int.le_refl, Nat.le_refl, Int.cast_ofNat_Int, hlt]
            refine hQ1 _ _ ?_
            simp (decide := true) (maxSteps := 4000000) only [go_sem, Nat.reduceAdd, Nat.reduceSub, Nat.reduceMul, Nat.reduceDiv, Nat.reduceMod, Nat.reduceLT, Nat.reduceLeDiff, Nat.reduceEqDiff, Nat.reduceBEq, Nat.reduceBNe, Nat.reduceGT, Int.reduceAdd, Int.reduceSub, Int.reduceMul, Int.reduceNeg, Int.reduceLT, Int.reduceLE, Int.reduceEq, Int.reduceNe, Int.reduceBEq, Int.reduceBNe, Int.reduceToNat, Int.reduceGT, Int.reduceGE, ↓reduceIte, decide_true, decide_false, eq_self, Nat.mul_one, Nat.zero_mul, Nat.one_mul, Int.le_refl, Nat.le_refl, Int.cast_ofNat_Int]
      · have hz' := hz _ hi rfl
        simp (decide := true) (maxSteps := 4000000) only [go_sem, Nat.reduceAdd, Nat.reduceSub, Nat.reduceMul, Nat.reduceDiv, Nat.reduceMod, Nat.reduceLT, Nat.reduceLeDiff, Nat.reduceEqDiff, Nat.reduceBEq, Nat.reduceBNe, Nat.reduceGT, Int.reduceAdd, Int.reduceSub, Int.reduceMul, Int.reduceNeg, Int.reduceLT, Int.reduceLE, Int.reduceEq, Int.reduceNe, Int.reduceBEq, Int.reduceBNe, Int.reduceToNat, Int.reduceGT, Int.reduceGE, ↓reduceIte, decide_true, decide_false, eq_self, Nat.mul_one, Nat.zero_mul, Nat.one_mul, Int.le_refl, Nat.le_refl, Int.cast_ofNat_Int, Try.f94, Ck.t, Ck.cs, hi, hz']
        refine pwpC_loopU (A := { k : Nat // k ≤ temps.length }) [1, 2, 3, 31, 32] (fun k => [(33, .t (.int .i64 k.1)), (4, .t (.int .i64 (befT temps k.1)))]) (fun _ => []) (fun k => temps.length - k.1) ⟨0, by omega⟩ (by decide) (fun _ => by rfl) ?_ fun Q1 hQ1 ⟨k, hk⟩ I1 hI1 => ?_
        · simp (decide := true) (maxSteps := 4000000) only [go_sem, Nat.reduceAdd, Nat.reduceSub, Nat.reduceMul, Nat.reduceDiv, Nat.reduceMod, Nat.reduceLT, Nat.reduceLeDiff, Nat.reduceEqDiff, Nat.reduceBEq, Nat.reduceBNe, Nat.reduceGT, Int.reduceAdd, Int.reduceSub, Int.reduceMul, Int.reduceNeg, Int.reduceLT, Int.reduceLE, Int.reduceEq, Int.reduceNe, Int.reduceBEq, Int.reduceBNe, Int.reduceToNat, Int.reduceGT, Int.reduceGE, ↓reduceIte, decide_true, decide_false, eq_self, Nat.mul_one, Nat.zero_mul, Nat.one_mul, Int.le_refl, Nat.le_refl, Int.cast_ofNat_Int, befT]
        · by_cases hlt : (k : Int) < temps.length
          · obtain ⟨x, hx⟩ := get_lt hlt
            have hd := ints_at hx
            rw [Nat.mul_one] at hd
            have hw : IntKind.i64.wrap ((k : Int) + 1) = ((k + 1 : Nat) : Int) := by rw [wrap_in (by omega) (by omega)]; omega
            simp (decide := true) (maxSteps := 4000000) only [go_sem, Nat.reduceAdd, Nat.reduceSub, Nat.reduceMul, Nat.reduceDiv, Nat.reduceMod, Nat.reduceLT, Nat.reduceLeDiff, Nat.reduceEqDiff, Nat.reduceBEq, Nat.reduceBNe, Nat.reduceGT, Int.reduceAdd, Int.reduceSub, Int.reduceMul, Int.reduceNeg, Int.reduceLT, Int.reduceLE, Int.reduceEq, Int.reduceNe, Int.reduceBEq, Int.reduceBNe, Int.reduceToNat, Int.reduceGT, Int.reduceGE, ↓reduceIte, decide_true, decide_false, eq_self, Nat.mul_one, Nat.zero_mul, Nat.one_mul, Int.le_refl, Nat.le_refl, Int.cast_ofNat_Int, hlt, hd]
            refine hI1 _ ⟨k + 1, by omega⟩ (by simp only; omega) ?_
            simp (decide := true) (maxSteps := 4000000) only [go_sem, Nat.reduceAdd, Nat.reduceSub, Nat.reduceMul, Nat.reduceDiv, Nat.reduceMod, Nat.reduceLT, Nat.reduceLeDiff, Nat.reduceEqDiff, Nat.reduceBEq, Nat.reduceBNe, Nat.reduceGT, Int.reduceAdd, Int.reduceSub, Int.reduceMul, Int.reduceNeg, Int.reduceLT, Int.reduceLE, Int.reduceEq, Int.reduceNe, Int.reduceBEq, Int.reduceBNe, Int.reduceToNat, Int.reduceGT, Int.reduceGE, ↓reduceIte, decide_true, decide_false, eq_self, Nat.mul_one, Nat.zero_mul, Nat.one_mul, Int.le_refl, Nat.le_refl, Int.cast_ofNat_Int, hw, befT, tempAt_eq hx]
          · simp (decide := true) (maxSteps := 4000000) only [go_sem, Nat.reduceAdd, Nat.reduceSub, Nat.reduceMul, Nat.reduceDiv, Nat.reduceMod, Nat.reduceLT, Nat.reduceLeDiff, Nat.reduceEqDiff, Nat.reduceBEq, Nat.reduceBNe, Nat.reduceGT, Int.reduceAdd, Int.reduceSub, Int.reduceMul, Int.reduceNeg, Int.reduceLT, Int.reduceLE, Int.reduceEq, Int.reduceNe, Int.reduceBEq, Int.reduceBNe, Int.reduceToNat, Int.reduceGT, Int.reduceGE, ↓reduceIte, decide_true, decide_false, eq_self, Nat.mul_one, Nat.zero_mul, Nat.one_mul, Int.le_refl, Nat.le_refl, Int.cast_ofNat_Int, hlt]
            refine hQ1 _ _ ?_
            simp (decide := true) (maxSteps := 4000000) only [go_sem, Nat.reduceAdd, Nat.reduceSub, Nat.reduceMul, Nat.reduceDiv, Nat.reduceMod, Nat.reduceLT, Nat.reduceLeDiff, Nat.reduceEqDiff, Nat.reduceBEq, Nat.reduceBNe, Nat.reduceGT, Int.reduceAdd, Int.reduceSub, Int.reduceMul, Int.reduceNeg, Int.reduceLT, Int.reduceLE, Int.reduceEq, Int.reduceNe, Int.reduceBEq, Int.reduceBNe, Int.reduceToNat, Int.reduceGT, Int.reduceGE, ↓reduceIte, decide_true, decide_false, eq_self, Nat.mul_one, Nat.zero_mul, Nat.one_mul, Int.le_refl, Nat.le_refl, Int.cast_ofNat_Int]
    · have loop : ∀ (Q : Exit → CS → Prop), True := fun _ => trivial
      have hmain : ∀ k, k ≤ temps.length → True := fun _ _ => trivial
      cases hi : inB (temps.length : Int) 2 8 <;> cases hz : ((rates.length : Int) == (temps.length : Int)) <;> cases ha : spannedB ⟨a0, a1⟩ (-1000) 1000 <;> cases he : spannedB ⟨e0, e1⟩ (-10000000) 10000000
      all_goals
        have hz2 : decide ((rates.length : Int) = temps.length) = ((rates.length : Int) == (temps.length : Int)) := rfl
        rw [hi, hz2, hz, ha, he] at hb'
        simp only [Bool.and_true, Bool.and_false, Bool.true_and, Bool.false_and] at hb'
        subst hb'
        simp (decide := true) (maxSteps := 4000000) only [go_sem, Nat.reduceAdd, Nat.reduceSub, Nat.reduceMul, Nat.reduceDiv, Nat.reduceMod, Nat.reduceLT, Nat.reduceLeDiff, Nat.reduceEqDiff, Nat.reduceBEq, Nat.reduceBNe, Nat.reduceGT, Int.reduceAdd, Int.reduceSub, Int.reduceMul, Int.reduceNeg, Int.reduceLT, Int.reduceLE, Int.reduceEq, Int.reduceNe, Int.reduceBEq, Int.reduceBNe, Int.reduceToNat, Int.reduceGT, Int.reduceGE, ↓reduceIte, decide_true, decide_false, eq_self, Nat.mul_one, Nat.zero_mul, Nat.one_mul, Int.le_refl, Nat.le_refl, Int.cast_ofNat_Int, Try.f94, Ck.t, Ck.cs, hi, hz, ha, he]
        refine pwpC_loopU (A := { k : Nat // k ≤ temps.length }) [1, 2, 31, 32] (fun k => [(33, .t (.int .i64 k.1)), (3, .t (.bool (ckPre ⟨temps, rates, ⟨a0, a1⟩, ⟨e0, e1⟩⟩ k.1))), (4, .t (.int .i64 (befT temps k.1)))]) (fun _ => []) (fun k => temps.length - k.1) ⟨0, by omega⟩ (by decide) (fun _ => by rfl) ?_ fun Q1 hQ1 ⟨k, hk⟩ I1 hI1 => ?_
        · simp (decide := true) (maxSteps := 4000000) only [go_sem, Nat.reduceAdd, Nat.reduceSub, Nat.reduceMul, Nat.reduceDiv, Nat.reduceMod, Nat.reduceLT, Nat.reduceLeDiff, Nat.reduceEqDiff, Nat.reduceBEq, Nat.reduceBNe, Nat.reduceGT, Int.reduceAdd, Int.reduceSub, Int.reduceMul, Int.reduceNeg, Int.reduceLT, Int.reduceLE, Int.reduceEq, Int.reduceNe, Int.reduceBEq, Int.reduceBNe, Int.reduceToNat, Int.reduceGT, Int.reduceGE, ↓reduceIte, decide_true, decide_false, eq_self, Nat.mul_one, Nat.zero_mul, Nat.one_mul, Int.le_refl, Nat.le_refl, Int.cast_ofNat_Int, befT, ckPre, hb]
        · by_cases hlt : (k : Int) < temps.length
          · obtain ⟨x, hx⟩ := get_lt hlt
            have hd := ints_at hx
            rw [Nat.mul_one] at hd
            have hw : IntKind.i64.wrap ((k : Int) + 1) = ((k + 1 : Nat) : Int) := by rw [wrap_in (by omega) (by omega)]; omega
            have hta := tempAt_eq hx
            have hs1 : ckPre ⟨temps, rates, ⟨a0, a1⟩, ⟨e0, e1⟩⟩ (k + 1) = (ckPre ⟨temps, rates, ⟨a0, a1⟩, ⟨e0, e1⟩⟩ k && (inB x (befT temps k + 1) 60 && spannedB (atS rates k) (-100000) 100000)) := by
              show (_ && ckAt _ k) = _
              unfold ckAt
              simp only [hta]
            cases hp : ckPre ⟨temps, rates, ⟨a0, a1⟩, ⟨e0, e1⟩⟩ k with
            | false =>
              rw [hp, Bool.false_and] at hs1
              by_cases hkr : (k : Int) < rates.length
              · obtain ⟨y, hy⟩ := get_lt hkr
                have hdy := flat_at Span.cs (n := 2) (fun _ => rfl) hy
                obtain ⟨y0, y1⟩ := y
                simp (decide := true) (maxSteps := 4000000) only [go_sem, Nat.reduceAdd, Nat.reduceSub, Nat.reduceMul, Nat.reduceDiv, Nat.reduceMod, Nat.reduceLT, Nat.reduceLeDiff, Nat.reduceEqDiff, Nat.reduceBEq, Nat.reduceBNe, Nat.reduceGT, Int.reduceAdd, Int.reduceSub, Int.reduceMul, Int.reduceNeg, Int.reduceLT, Int.reduceLE, Int.reduceEq, Int.reduceNe, Int.reduceBEq, Int.reduceBNe, Int.reduceToNat, Int.reduceGT, Int.reduceGE, ↓reduceIte, decide_true, decide_false, eq_self, Nat.mul_one, Nat.zero_mul, Nat.one_mul, Int.le_refl, Nat.le_refl, Int.cast_ofNat_Int, hlt, hd, hp, hkr, hdy, Span.cs]
                refine hI1 _ ⟨k + 1, by omega⟩ (by simp only; omega) ?_
                simp (decide := true) (maxSteps := 4000000) only [go_sem, Nat.reduceAdd, Nat.reduceSub, Nat.reduceMul, Nat.reduceDiv, Nat.reduceMod, Nat.reduceLT, Nat.reduceLeDiff, Nat.reduceEqDiff, Nat.reduceBEq, Nat.reduceBNe, Nat.reduceGT, Int.reduceAdd, Int.reduceSub, Int.reduceMul, Int.reduceNeg, Int.reduceLT, Int.reduceLE, Int.reduceEq, Int.reduceNe, Int.reduceBEq, Int.reduceBNe, Int.reduceToNat, Int.reduceGT, Int.reduceGE, ↓reduceIte, decide_true, decide_false, eq_self, Nat.mul_one, Nat.zero_mul, Nat.one_mul, Int.le_refl, Nat.le_refl, Int.cast_ofNat_Int, hw, befT, hta, hs1]
              · simp (decide := true) (maxSteps := 4000000) only [go_sem, Nat.reduceAdd, Nat.reduceSub, Nat.reduceMul, Nat.reduceDiv, Nat.reduceMod, Nat.reduceLT, Nat.reduceLeDiff, Nat.reduceEqDiff, Nat.reduceBEq, Nat.reduceBNe, Nat.reduceGT, Int.reduceAdd, Int.reduceSub, Int.reduceMul, Int.reduceNeg, Int.reduceLT, Int.reduceLE, Int.reduceEq, Int.reduceNe, Int.reduceBEq, Int.reduceBNe, Int.reduceToNat, Int.reduceGT, Int.reduceGE, ↓reduceIte, decide_true, decide_false, eq_self, Nat.mul_one, Nat.zero_mul, Nat.one_mul, Int.le_refl, Nat.le_refl, Int.cast_ofNat_Int, hlt, hd, hp, hkr]
                refine hI1 _ ⟨k + 1, by omega⟩ (by simp only; omega) ?_
                simp (decide := true) (maxSteps := 4000000) only [go_sem, Nat.reduceAdd, Nat.reduceSub, Nat.reduceMul, Nat.reduceDiv, Nat.reduceMod, Nat.reduceLT, Nat.reduceLeDiff, Nat.reduceEqDiff, Nat.reduceBEq, Nat.reduceBNe, Nat.reduceGT, Int.reduceAdd, Int.reduceSub, Int.reduceMul, Int.reduceNeg, Int.reduceLT, Int.reduceLE, Int.reduceEq, Int.reduceNe, Int.reduceBEq, Int.reduceBNe, Int.reduceToNat, Int.reduceGT, Int.reduceGE, ↓reduceIte, decide_true, decide_false, eq_self, Nat.mul_one, Nat.zero_mul, Nat.one_mul, Int.le_refl, Nat.le_refl, Int.cast_ofNat_Int, hw, befT, hta, hs1]
            | true =>
              have hl := ckPre_last hp
              have hbs := ckBase_len (ckPre_base hp)
              simp only at hl hbs
              have hwl : IntKind.i64.wrap (befT temps k + 1) = befT temps k + 1 := wrap_in (by omega) (by omega)
              have hkr : (k : Int) < rates.length := by omega
              obtain ⟨y, hy⟩ := get_lt hkr
              have hdy := flat_at Span.cs (n := 2) (fun _ => rfl) hy
              have hay := atS_eq hy
              obtain ⟨y0, y1⟩ := y
              rw [hp, Bool.true_and, hay] at hs1
              cases hc1 : inB x (befT temps k + 1) 60 with
              | false =>
                rw [hc1, Bool.false_and] at hs1
                simp (decide := true) (maxSteps := 4000000) only [go_sem, Nat.reduceAdd, Nat.reduceSub, Nat.reduceMul, Nat.reduceDiv, Nat.reduceMod, Nat.reduceLT, Nat.reduceLeDiff, Nat.reduceEqDiff, Nat.reduceBEq, Nat.reduceBNe, Nat.reduceGT, Int.reduceAdd, Int.reduceSub, Int.reduceMul, Int.reduceNeg, Int.reduceLT, Int.reduceLE, Int.reduceEq, Int.reduceNe, Int.reduceBEq, Int.reduceBNe, Int.reduceToNat, Int.reduceGT, Int.reduceGE, ↓reduceIte, decide_true, decide_false, eq_self, Nat.mul_one, Nat.zero_mul, Nat.one_mul, Int.le_refl, Nat.le_refl, Int.cast_ofNat_Int, hlt, hd, hp, hwl, hc1, hkr, hdy, Span.cs]
                refine hI1 _ ⟨k + 1, by omega⟩ (by simp only; omega) ?_
                simp (decide := true) (maxSteps := 4000000) only [go_sem, Nat.reduceAdd, Nat.reduceSub, Nat.reduceMul, Nat.reduceDiv, Nat.reduceMod, Nat.reduceLT, Nat.reduceLeDiff, Nat.reduceEqDiff, Nat.reduceBEq, Nat.reduceBNe, Nat.reduceGT, Int.reduceAdd, Int.reduceSub, Int.reduceMul, Int.reduceNeg, Int.reduceLT, Int.reduceLE, Int.reduceEq, Int.reduceNe, Int.reduceBEq, Int.reduceBNe, Int.reduceToNat, Int.reduceGT, Int.reduceGE, ↓reduceIte, decide_true, decide_false, eq_self, Nat.mul_one, Nat.zero_mul, Nat.one_mul, Int.le_refl, Nat.le_refl, Int.cast_ofNat_Int, hw, befT, hta, hs1]
              | true =>
                rw [hc1, Bool.true_and] at hs1
                simp (decide := true) (maxSteps := 4000000) only [go_sem, Nat.reduceAdd, Nat.reduceSub, Nat.reduceMul, Nat.reduceDiv, Nat.reduceMod, Nat.reduceLT, Nat.reduceLeDiff, Nat.reduceEqDiff, Nat.reduceBEq, Nat.reduceBNe, Nat.reduceGT, Int.reduceAdd, Int.reduceSub, Int.reduceMul, Int.reduceNeg, Int.reduceLT, Int.reduceLE, Int.reduceEq, Int.reduceNe, Int.reduceBEq, Int.reduceBNe, Int.reduceToNat, Int.reduceGT, Int.reduceGE, ↓reduceIte, decide_true, decide_false, eq_self, Nat.mul_one, Nat.zero_mul, Nat.one_mul, Int.le_refl, Nat.le_refl, Int.cast_ofNat_Int, hlt, hd, hp, hwl, hc1, hkr, hdy, Span.cs]
                refine hI1 _ ⟨k + 1, by omega⟩ (by simp only; omega) ?_
                simp (decide := true) (maxSteps := 4000000) only [go_sem, Nat.reduceAdd, Nat.reduceSub, Nat.reduceMul, Nat.reduceDiv, Nat.reduceMod, Nat.reduceLT, Nat.reduceLeDiff, Nat.reduceEqDiff, Nat.reduceBEq, Nat.reduceBNe, Nat.reduceGT, Int.reduceAdd, Int.reduceSub, Int.reduceMul, Int.reduceNeg, Int.reduceLT, Int.reduceLE, Int.reduceEq, Int.reduceNe, Int.reduceBEq, Int.reduceBNe, Int.reduceToNat, Int.reduceGT, Int.reduceGE, ↓reduceIte, decide_true, decide_false, eq_self, Nat.mul_one, Nat.zero_mul, Nat.one_mul, Int.le_refl, Nat.le_refl, Int.cast_ofNat_Int, hw, befT, hta, hs1]
          · have hkl : k = temps.length := by omega
            subst hkl
            have hok : ckOk ⟨temps, rates, ⟨a0, a1⟩, ⟨e0, e1⟩⟩ = ckPre ⟨temps, rates, ⟨a0, a1⟩, ⟨e0, e1⟩⟩ temps.length := rfl
            cases hp : ckPre ⟨temps, rates, ⟨a0, a1⟩, ⟨e0, e1⟩⟩ temps.length <;> simp (decide := true) (maxSteps := 4000000) only [go_sem, Nat.reduceAdd, Nat.reduceSub, Nat.reduceMul, Nat.reduceDiv, Nat.reduceMod, Nat.reduceLT, Nat.reduceLeDiff, Nat.reduceEqDiff, Nat.reduceBEq, Nat.reduceBNe, Nat.reduceGT, Int.reduceAdd, Int.reduceSub, Int.reduceMul, Int.reduceNeg, Int.reduceLT, Int.reduceLE, Int.reduceEq, Int.reduceNe, Int.reduceBEq, Int.reduceBNe, Int.reduceToNat, Int.reduceGT, Int.reduceGE, ↓reduceIte, decide_true, decide_false, eq_self, Nat.mul_one, Nat.zero_mul, Nat.one_mul, Int.le_refl, Nat.le_refl, Int.cast_ofNat_Int, hlt, hp]
            all_goals
              refine hQ1 _ _ ?_
              simp (decide := true) (maxSteps := 4000000) only [go_sem, Nat.reduceAdd, Nat.reduceSub, Nat.reduceMul, Nat.reduceDiv, Nat.reduceMod, Nat.reduceLT, Nat.reduceLeDiff, Nat.reduceEqDiff, Nat.reduceBEq, Nat.reduceBNe, Nat.reduceGT, Int.reduceAdd, Int.reduceSub, Int.reduceMul, Int.reduceNeg, Int.reduceLT, Int.reduceLE, Int.reduceEq, Int.reduceNe, Int.reduceBEq, Int.reduceBNe, Int.reduceToNat, Int.reduceGT, Int.reduceGE, ↓reduceIte, decide_true, decide_false, eq_self, Nat.mul_one, Nat.zero_mul, Nat.one_mul, Int.le_refl, Nat.le_refl, Int.cast_ofNat_Int, hok, hp]
noncomputable def ckCheck : List TV → Option TV
  | [.agg [tT, tR, .int .i64 a0, .int .i64 a1, .int .i64 e0, .int .i64 e1]] => match rowL unI tT, rowL unS tR with
    | some l, some r => if l.length ≤ 17592186044415 ∧ r.length ≤ 17592186044415 then some (.int .i64 (if ckOk ⟨l, r, ⟨a0, a1⟩, ⟨e0, e1⟩⟩ then 0 else 70)) else none
    | _, _ => none
  | _ => none
theorem ckCheck_ok : ∀ xs r, ckCheck xs = some r → PCalls Try.prog 94 xs r := by
  intro xs r h
  unfold ckCheck at h
  split at h
  · split at h
    · rename_i l r' hl hr
      split at h
      · rename_i hc; cases h
        exact kCheck_c ⟨l, r', ⟨_, _⟩, ⟨_, _⟩⟩ (rowL_some (un := unI) unI_nil (@unI_some) hl) (rowL_some (un := unS) unS_nil (@unS_some) hr) hc.1 hc.2
      · cases h
    · cases h
  · cases h
attribute [go_sem] ckCheck
end Go.Proofs.Ytadkjjnnnkfalaa

/- Part Kc. -/
namespace Go.Ok
open Go Go.RowKit Go.Pm Go.Oc Go.Oh Go.Os
def Ck.lo (c : Ck) : Int := tempAt c.temps 0
def Ck.hi (c : Ck) : Int := tempAt c.temps (c.temps.length - 1)
def daysPre (c : Ck) (d : List Span) (k : Nat) : Bool := inB d.length 1 60 && (d.take k).all (fun s => spannedB s c.lo c.hi)
def daysOk (c : Ck) (d : List Span) : Bool := daysPre c d d.length
theorem daysPre_succ {c : Ck} {d : List Span} {k : Nat} {s : Span} (h : d[k]? = some s) : daysPre c d (k + 1) = (daysPre c d k && spannedB s c.lo c.hi) := by
  unfold daysPre
  rw [take_snoc h, List.all_append, List.all_cons, List.all_nil, Bool.and_true, Bool.and_assoc]
def ckNil : TV := .agg [.nilSl, .nilSl, .int .i64 0, .int .i64 0, .int .i64 0, .int .i64 0]
end Go.Ok
namespace Go.Proofs.Ytadkjjnnnkfalaa
open Go.RowKit Go.Pm Go.Oc Go.Oh Go.Os Go.Ok
set_option maxRecDepth 100000
set_option linter.unusedVariables false
set_option maxHeartbeats 4000000

theorem kTemps_c (c : Ck) (f : Bool) (tR : TV) (h : 1 ≤ c.temps.length) (h1 : c.temps.length ≤ 1000) : PCalls Try.prog 97 [c.t (.sl (ints c.temps) c.temps.length f) tR] (.agg [.int .i64 c.lo, .int .i64 c.hi]) := by
  obtain ⟨temps, rates, ⟨a0, a1⟩, ⟨e0, e1⟩⟩ := c
  simp only [Ck.lo, Ck.hi] at *
  obtain ⟨x, hx⟩ : ∃ x, temps[0]? = some x := ⟨_, List.getElem?_eq_getElem (show 0 < temps.length by omega)⟩
  obtain ⟨y, hy⟩ : ∃ y, temps[temps.length - 1]? = some y := ⟨_, List.getElem?_eq_getElem (show temps.length - 1 < temps.length by omega)⟩
  have hd : (ints temps)[0]? = some (.int .i64 x) := by unfold ints; rw [List.getElem?_map, hx]; rfl
  have hd2 := ints_at hy
  rw [Nat.mul_one] at hd2
  have hw : IntKind.i64.wrap ((temps.length : Int) - 1) = ((temps.length - 1 : Nat) : Int) := by rw [wrap_in (by omega) (by omega)]; omega
  have h0 : (0 : Int) < temps.length := by omega
  have h0' : 0 < temps.length := by omega
  have hl : ((temps.length - 1 : Nat) : Int) < temps.length := by omega
  rw [tempAt_eq hx, tempAt_eq hy]
  obtain ⟨n1, hn1⟩ : ∃ n1, temps.length - 1 = n1 := ⟨_, rfl⟩
  rw [hn1] at hw hl hd2
  refine pcalls_by Try.mixes noSpec_ok (fn := Try.f97) Try.func97 rfl (by kernel_rfl) (by show 1 ≤ _; decide) ?_
  simp (decide := true) (maxSteps := 4000000) only [go_sem, Nat.reduceAdd, Nat.reduceSub, Nat.reduceMul, Nat.reduceDiv, Nat.reduceMod, Nat.reduceLT, Nat.reduceLeDiff, Nat.reduceEqDiff, Nat.reduceBEq, Nat.reduceBNe, Nat.reduceGT, Int.reduceAdd, Int.reduceSub, Int.reduceMul, Int.reduceNeg, Int.reduceLT, Int.reduceLE, Int.reduceEq, Int.reduceNe, Int.reduceBEq, Int.reduceBNe, Int.reduceToNat, Int.reduceGT, Int.reduceGE, ↓reduceIte, decide_true, decide_false, eq_self, Nat.mul_one, Nat.zero_mul, Nat.one_mul, Int.le_refl, Nat.le_refl, Int.cast_ofNat_Int, Try.f97, Ck.t, Ck.cs, hw, h0, h0', hd, hd2, hl]
noncomputable def ckTemps : List TV → Option TV
  | [.agg [.sl cs n f, tR, .int .i64 a0, .int .i64 a1, .int .i64 e0, .int .i64 e1]] => match unI cs with
    | some l => if n = l.length ∧ 1 ≤ l.length ∧ l.length ≤ 1000 then some (.agg [.int .i64 (tempAt l 0), .int .i64 (tempAt l (l.length - 1))]) else none
    | none => none
  | _ => none
theorem ckTemps_ok : ∀ xs r, ckTemps xs = some r → PCalls Try.prog 97 xs r := by
  intro xs r h
  unfold ckTemps at h
  split at h
  · split at h
    · rename_i l hl
      split at h
      · rename_i hc; cases h
        obtain ⟨rfl, h1, h2⟩ := hc
        have e := unI_some hl
        rw [ic_ints] at e
        subst e
        exact kTemps_c ⟨l, [], ⟨_, _⟩, ⟨_, _⟩⟩ _ _ h1 h2
      · cases h
    · cases h
  · cases h
attribute [go_sem] ckTemps
noncomputable def spKc : Pm.Spec := (spKb.one 94 ckCheck).one 97 ckTemps
@[go_sem] theorem spKc_p (f : FuncId) (xs : List TV) : spKc.p f xs = Pm.Spec.p ((spKb.one 94 ckCheck).one 97 ckTemps) f xs := rfl
@[go_sem] theorem spKc_h (f : FuncId) (ps : List PV) (hl : List PO) : spKc.h f ps hl = Pm.Spec.h ((spKb.one 94 ckCheck).one 97 ckTemps) f ps hl := rfl
@[go_sem] theorem spKc_y (Y : Pm.YS) (f : FuncId) (ps : List PV) (hl : List PO) : spKc.y Y f ps hl = Pm.Spec.y ((spKb.one 94 ckCheck).one 97 ckTemps) Y f ps hl := rfl
@[go_sem] theorem spKc_fz (f : FuncId) : spKc.fz f = Pm.Spec.fz ((spKb.one 94 ckCheck).one 97 ckTemps) f := rfl
@[go_sem] theorem spKc_fr (f : FuncId) : spKc.fr f = Pm.Spec.fr ((spKb.one 94 ckCheck).one 97 ckTemps) f := rfl
@[go_sem] theorem spKc_yf (f : FuncId) : spKc.yf f = Pm.Spec.yf ((spKb.one 94 ckCheck).one 97 ckTemps) f := rfl
@[go_sem] theorem spKc_mu (t : TypeId) : spKc.mu t = Pm.Spec.mu ((spKb.one 94 ckCheck).one 97 ckTemps) t := rfl
@[go_sem] theorem spKc_nf (t : TypeId) : spKc.nf t = Pm.Spec.nf ((spKb.one 94 ckCheck).one 97 ckTemps) t := rfl
theorem spKc_ok : SpecOk Try.prog spKc := Spec.one_ok ckTemps_ok (Spec.one_ok ckCheck_ok spKb_ok)

theorem kOpenBad_c (c : Ck) {tT tR sD : TV} {d : List Span} (hT : IsRow ic tT c.temps) (hR : IsRow Span.cs tR c.rates) (h1 : c.temps.length ≤ 17592186044415) (h2 : c.rates.length ≤ 17592186044415) (hok : ckOk c = false) : PCalls Try.prog 60 [c.t tT tR, sD] (.tup [ckNil, .int .i64 70]) := by
  obtain ⟨temps, rates, ⟨a0, a1⟩, ⟨e0, e1⟩⟩ := c
  simp only at *
  have rT : rowL unI tT = some temps := rowI_is hT
  have rR : rowL unS tR = some rates := rowS_is hR
  unfold rowL at rT rR
  simp only [unS_nil, unI_nil] at rT rR
  refine pcalls_by Try.mixes spKc_ok (fn := Try.f60) Try.func60 rfl (by kernel_rfl) (by show 2 ≤ _; decide) ?_
  simp (decide := true) (maxSteps := 4000000) only [go_sem, Nat.reduceAdd, Nat.reduceSub, Nat.reduceMul, Nat.reduceDiv, Nat.reduceMod, Nat.reduceLT, Nat.reduceLeDiff, Nat.reduceEqDiff, Nat.reduceBEq, Nat.reduceBNe, Nat.reduceGT, Int.reduceAdd, Int.reduceSub, Int.reduceMul, Int.reduceNeg, Int.reduceLT, Int.reduceLE, Int.reduceEq, Int.reduceNe, Int.reduceBEq, Int.reduceBNe, Int.reduceToNat, Int.reduceGT, Int.reduceGE, ↓reduceIte, decide_true, decide_false, eq_self, Nat.mul_one, Nat.zero_mul, Nat.one_mul, Int.le_refl, Nat.le_refl, Int.cast_ofNat_Int, Try.f60, Ck.t, Ck.cs, rT, rR, h1, h2, hok, ckNil]
theorem kOpened_c (c : Ck) {sD : TV} {d : List Span} (fT fR : Bool) (hD : IsRow Span.cs sD d) (h3 : d.length ≤ 17592186044415) (hok : ckOk c = true) : PCalls Try.prog 60 [c.t (.sl (ints c.temps) c.temps.length fT) (.sl (c.rates.flatMap Span.cs) c.rates.length fR), sD] (.tup [c.t (.sl (ints c.temps) c.temps.length fT) (.sl (c.rates.flatMap Span.cs) c.rates.length fR), .int .i64 (if daysOk c d then 0 else 71)]) := by
  have hb := ckBase_len (ckPre_base hok)
  obtain ⟨temps, rates, ⟨a0, a1⟩, ⟨e0, e1⟩⟩ := c
  simp only at hb
  have rT : unI (ints temps) = some temps := by rw [← ic_ints]; exact unI_ic _
  have rR : unS (rates.flatMap Span.cs) = some rates := unS_eq _
  have h1 : temps.length ≤ 17592186044415 := by omega
  have h2 : rates.length ≤ 17592186044415 := by omega
  have h4 : 1 ≤ temps.length := by omega
  have h5 : temps.length ≤ 1000 := by omega
  refine pcalls_by Try.mixes spKc_ok (fn := Try.f60) Try.func60 rfl (by kernel_rfl) (by show 2 ≤ _; decide) ?_
  rcases hD with ⟨rfl, rfl⟩ | ⟨fD, rfl⟩
  · have hi : inB 0 1 60 = false := rfl
    have hdo : daysOk ⟨temps, rates, ⟨a0, a1⟩, ⟨e0, e1⟩⟩ [] = false := rfl
    rw [hdo]
    simp (decide := true) (maxSteps := 4000000) only [go_sem, Nat.reduceAdd, Nat.reduceSub, Nat.reduceMul, Nat.reduceDiv, Nat.reduceMod, Nat.reduceLT, Nat.reduceLeDiff, Nat.reduceEqDiff, Nat.reduceBEq, Nat.reduceBNe, Nat.reduceGT, Int.reduceAdd, Int.reduceSub, Int.reduceMul, Int.reduceNeg, Int.reduceLT, Int.reduceLE, Int.reduceEq, Int.reduceNe, Int.reduceBEq, Int.reduceBNe, Int.reduceToNat, Int.reduceGT, Int.reduceGE, ↓reduceIte, decide_true, decide_false, eq_self, Nat.mul_one, Nat.zero_mul, Nat.one_mul, Int.le_refl, Nat.le_refl, Int.cast_ofNat_Int, Try.f60, Ck.t, Ck.cs, rowL, rT, rR, h1, h2, hok, hi]
    refine pwpC_loopU (A := Unit) [1, 2, 4, 5, 7, 8, 22, 23] (fun _ => [(24, .t (.int .i64 0))]) (fun _ => []) (fun _ => 0) () (by decide) (fun _ => by rfl) ?_ fun Q1 hQ1 _ I1 hI1 => ?_
    · simp (decide := true) (maxSteps := 4000000) only [go_sem, Nat.reduceAdd, Nat.reduceSub, Nat.reduceMul, Nat.reduceDiv, Nat.reduceMod, Nat.reduceLT, Nat.reduceLeDiff, Nat.reduceEqDiff, Nat.reduceBEq, Nat.reduceBNe, Nat.reduceGT, Int.reduceAdd, Int.reduceSub, Int.reduceMul, Int.reduceNeg, Int.reduceLT, Int.reduceLE, Int.reduceEq, Int.reduceNe, Int.reduceBEq, Int.reduceBNe, Int.reduceToNat, Int.reduceGT, Int.reduceGE, ↓reduceIte, decide_true, decide_false, eq_self, Nat.mul_one, Nat.zero_mul, Nat.one_mul, Int.le_refl, Nat.le_refl, Int.cast_ofNat_Int]
    · simp (decide := true) (maxSteps := 4000000) only [go_sem, Nat.reduceAdd, Nat.reduceSub, Nat.reduceMul, Nat.reduceDiv, Nat.reduceMod, Nat.reduceLT, Nat.reduceLeDiff, Nat.reduceEqDiff, Nat.reduceBEq, Nat.reduceBNe, Nat.reduceGT, Int.reduceAdd, Int.reduceSub, Int.reduceMul, Int.reduceNeg, Int.reduceLT, Int.reduceLE, Int.reduceEq, Int.reduceNe, Int.reduceBEq, Int.reduceBNe, Int.reduceToNat, Int.reduceGT, Int.reduceGE, ↓reduceIte, decide_true, decide_false, eq_self, Nat.mul_one, Nat.zero_mul, Nat.one_mul, Int.le_refl, Nat.le_refl, Int.cast_ofNat_Int]
      refine hQ1 _ _ ?_
      simp (decide := true) (maxSteps := 4000000) only [go_sem, Nat.reduceAdd, Nat.reduceSub, Nat.reduceMul, Nat.reduceDiv, Nat.reduceMod, Nat.reduceLT, Nat.reduceLeDiff, Nat.reduceEqDiff, Nat.reduceBEq, Nat.reduceBNe, Nat.reduceGT, Int.reduceAdd, Int.reduceSub, Int.reduceMul, Int.reduceNeg, Int.reduceLT, Int.reduceLE, Int.reduceEq, Int.reduceNe, Int.reduceBEq, Int.reduceBNe, Int.reduceToNat, Int.reduceGT, Int.reduceGE, ↓reduceIte, decide_true, decide_false, eq_self, Nat.mul_one, Nat.zero_mul, Nat.one_mul, Int.le_refl, Nat.le_refl, Int.cast_ofNat_Int]
  · simp (decide := true) (maxSteps := 4000000) only [go_sem, Nat.reduceAdd, Nat.reduceSub, Nat.reduceMul, Nat.reduceDiv, Nat.reduceMod, Nat.reduceLT, Nat.reduceLeDiff, Nat.reduceEqDiff, Nat.reduceBEq, Nat.reduceBNe, Nat.reduceGT, Int.reduceAdd, Int.reduceSub, Int.reduceMul, Int.reduceNeg, Int.reduceLT, Int.reduceLE, Int.reduceEq, Int.reduceNe, Int.reduceBEq, Int.reduceBNe, Int.reduceToNat, Int.reduceGT, Int.reduceGE, ↓reduceIte, decide_true, decide_false, eq_self, Nat.mul_one, Nat.zero_mul, Nat.one_mul, Int.le_refl, Nat.le_refl, Int.cast_ofNat_Int, Try.f60, Ck.t, Ck.cs, rowL, rT, rR, h1, h2, hok]
    refine pwpC_loopU (A := { k : Nat // k ≤ d.length }) [1, 2, 4, 5, 7, 22, 23] (fun k => [(24, .t (.int .i64 k.1)), (8, .t (.bool (daysPre ⟨temps, rates, ⟨a0, a1⟩, ⟨e0, e1⟩⟩ d k.1)))]) (fun _ => []) (fun k => d.length - k.1) ⟨0, by omega⟩ (by decide) (fun _ => by rfl) ?_ fun Q1 hQ1 ⟨k, hk⟩ I1 hI1 => ?_
    · simp (decide := true) (maxSteps := 4000000) only [go_sem, Nat.reduceAdd, Nat.reduceSub, Nat.reduceMul, Nat.reduceDiv, Nat.reduceMod, Nat.reduceLT, Nat.reduceLeDiff, Nat.reduceEqDiff, Nat.reduceBEq, Nat.reduceBNe, Nat.reduceGT, Int.reduceAdd, Int.reduceSub, Int.reduceMul, Int.reduceNeg, Int.reduceLT, Int.reduceLE, Int.reduceEq, Int.reduceNe, Int.reduceBEq, Int.reduceBNe, Int.reduceToNat, Int.reduceGT, Int.reduceGE, ↓reduceIte, decide_true, decide_false, eq_self, Nat.mul_one, Nat.zero_mul, Nat.one_mul, Int.le_refl, Nat.le_refl, Int.cast_ofNat_Int, daysPre, List.take_zero, List.all_nil, Bool.and_true]
    · by_cases hlt : (k : Int) < d.length
      · obtain ⟨x, hx⟩ := get_lt hlt
        have hd := flat_at Span.cs (n := 2) (fun _ => rfl) hx
        have hw : IntKind.i64.wrap ((k : Int) + 1) = ((k + 1 : Nat) : Int) := by rw [wrap_in (by omega) (by omega)]; omega
        have hs := daysPre_succ (c := ⟨temps, rates, ⟨a0, a1⟩, ⟨e0, e1⟩⟩) hx
        obtain ⟨x0, x1⟩ := x
        simp only [Ck.lo, Ck.hi] at hs
        cases hp : daysPre ⟨temps, rates, ⟨a0, a1⟩, ⟨e0, e1⟩⟩ d k with
        | false =>
          rw [hp, Bool.false_and] at hs
          simp (decide := true) (maxSteps := 4000000) only [go_sem, Nat.reduceAdd, Nat.reduceSub, Nat.reduceMul, Nat.reduceDiv, Nat.reduceMod, Nat.reduceLT, Nat.reduceLeDiff, Nat.reduceEqDiff, Nat.reduceBEq, Nat.reduceBNe, Nat.reduceGT, Int.reduceAdd, Int.reduceSub, Int.reduceMul, Int.reduceNeg, Int.reduceLT, Int.reduceLE, Int.reduceEq, Int.reduceNe, Int.reduceBEq, Int.reduceBNe, Int.reduceToNat, Int.reduceGT, Int.reduceGE, ↓reduceIte, decide_true, decide_false, eq_self, Nat.mul_one, Nat.zero_mul, Nat.one_mul, Int.le_refl, Nat.le_refl, Int.cast_ofNat_Int, hlt, hd, hp, rT, h4, h5, Span.cs]
          refine hI1 _ ⟨k + 1, by omega⟩ (by simp only; omega) ?_
          simp (decide := true) (maxSteps := 4000000) only [go_sem, Nat.reduceAdd, Nat.reduceSub, Nat.reduceMul, Nat.reduceDiv, Nat.reduceMod, Nat.reduceLT, Nat.reduceLeDiff, Nat.reduceEqDiff, Nat.reduceBEq, Nat.reduceBNe, Nat.reduceGT, Int.reduceAdd, Int.reduceSub, Int.reduceMul, Int.reduceNeg, Int.reduceLT, Int.reduceLE, Int.reduceEq, Int.reduceNe, Int.reduceBEq, Int.reduceBNe, Int.reduceToNat, Int.reduceGT, Int.reduceGE, ↓reduceIte, decide_true, decide_false, eq_self, Nat.mul_one, Nat.zero_mul, Nat.one_mul, Int.le_refl, Nat.le_refl, Int.cast_ofNat_Int, hw, hs]
        | true =>
          rw [hp, Bool.true_and] at hs
          simp (decide := true) (maxSteps := 4000000) only [go_sem, Nat.reduceAdd, Nat.reduceSub, Nat.reduceMul, Nat.reduceDiv, Nat.reduceMod, Nat.reduceLT, Nat.reduceLeDiff, Nat.reduceEqDiff, Nat.reduceBEq, Nat.reduceBNe, Nat.reduceGT, Int.reduceAdd, Int.reduceSub, Int.reduceMul, Int.reduceNeg, Int.reduceLT, Int.reduceLE, Int.reduceEq, Int.reduceNe, Int.reduceBEq, Int.reduceBNe, Int.reduceToNat, Int.reduceGT, Int.reduceGE, ↓reduceIte, decide_true, decide_false, eq_self, Nat.mul_one, Nat.zero_mul, Nat.one_mul, Int.le_refl, Nat.le_refl, Int.cast_ofNat_Int, hlt, hd, hp, rT, h4, h5, Span.cs]
          refine hI1 _ ⟨k + 1, by omega⟩ (by simp only; omega) ?_
          simp (decide := true) (maxSteps := 4000000) only [go_sem, Nat.reduceAdd, Nat.reduceSub, Nat.reduceMul, Nat.reduceDiv, Nat.reduceMod, Nat.reduceLT, Nat.reduceLeDiff, Nat.reduceEqDiff, Nat.reduceBEq, Nat.reduceBNe, Nat.reduceGT, Int.reduceAdd, Int.reduceSub, Int.reduceMul, Int.reduceNeg, Int.reduceLT, Int.reduceLE, Int.reduceEq, Int.reduceNe, Int.reduceBEq, Int.reduceBNe, Int.reduceToNat, Int.reduceGT, Int.reduceGE, ↓reduceIte, decide_true, decide_false, eq_self, Nat.mul_one, Nat.zero_mul, Nat.one_mul, Int.le_refl, Nat.le_refl, Int.cast_ofNat_Int, hw, hs]
      · have hkl : k = d.length := by omega
        subst hkl
        have hdo : daysOk ⟨temps, rates, ⟨a0, a1⟩, ⟨e0, e1⟩⟩ d = daysPre ⟨temps, rates, ⟨a0, a1⟩, ⟨e0, e1⟩⟩ d d.length := rfl
        cases hp : daysPre ⟨temps, rates, ⟨a0, a1⟩, ⟨e0, e1⟩⟩ d d.length <;> simp (decide := true) (maxSteps := 4000000) only [go_sem, Nat.reduceAdd, Nat.reduceSub, Nat.reduceMul, Nat.reduceDiv, Nat.reduceMod, Nat.reduceLT, Nat.reduceLeDiff, Nat.reduceEqDiff, Nat.reduceBEq, Nat.reduceBNe, Nat.reduceGT, Int.reduceAdd, Int.reduceSub, Int.reduceMul, Int.reduceNeg, Int.reduceLT, Int.reduceLE, Int.reduceEq, Int.reduceNe, Int.reduceBEq, Int.reduceBNe, Int.reduceToNat, Int.reduceGT, Int.reduceGE, ↓reduceIte, decide_true, decide_false, eq_self, Nat.mul_one, Nat.zero_mul, Nat.one_mul, Int.le_refl, Nat.le_refl, Int.cast_ofNat_Int, hlt, hp]
        all_goals
          refine hQ1 _ _ ?_
          simp (decide := true) (maxSteps := 4000000) only [go_sem, Nat.reduceAdd, Nat.reduceSub, Nat.reduceMul, Nat.reduceDiv, Nat.reduceMod, Nat.reduceLT, Nat.reduceLeDiff, Nat.reduceEqDiff, Nat.reduceBEq, Nat.reduceBNe, Nat.reduceGT, Int.reduceAdd, Int.reduceSub, Int.reduceMul, Int.reduceNeg, Int.reduceLT, Int.reduceLE, Int.reduceEq, Int.reduceNe, Int.reduceBEq, Int.reduceBNe, Int.reduceToNat, Int.reduceGT, Int.reduceGE, ↓reduceIte, decide_true, decide_false, eq_self, Nat.mul_one, Nat.zero_mul, Nat.one_mul, Int.le_refl, Nat.le_refl, Int.cast_ofNat_Int, hdo, hp]
end Go.Proofs.Ytadkjjnnnkfalaa

/- Part Kd. -/
namespace Go.Ok
open Go Go.RowKit Go.Pm Go.Oc Go.Oh Go.Os
def ratOk (l : List Int) (t : Int) : Bool := decide (l.Pairwise (· < ·)) && (l.all (inB · 0 60) && (decide (1 ≤ l.length) && (decide (l.length ≤ 8) && inB t (tempAt l 0) (tempAt l (l.length - 1)))))
def gOk (n : Nat) (g : Nat → Int) : Bool := (List.range n).all fun k => inB (g k) (-100000) 100000
def rateP (l : List Int) (g : Nat → Int) (t : Int) : Int :=
  if tempAt l (lowI l t) = t then g (lowI l t)
  else (g (lowI l t - 1) * ((tempAt l (lowI l t) - tempAt l (lowI l t - 1)) - (t - tempAt l (lowI l t - 1))) + g (lowI l t) * (t - tempAt l (lowI l t - 1))) / (tempAt l (lowI l t) - tempAt l (lowI l t - 1))
structure Rat (l : List Int) (t : Int) : Prop where
  inc : l.Pairwise (· < ·)
  b : ∀ x ∈ l, 0 ≤ x ∧ x ≤ 60
  n0 : 1 ≤ l.length
  n1 : l.length ≤ 8
  lo : tempAt l 0 ≤ t
  hi : t ≤ tempAt l (l.length - 1)
theorem ratOk_iff {l : List Int} {t : Int} (h : ratOk l t = true) : Rat l t := by
  unfold ratOk at h
  simp only [Bool.and_eq_true, decide_eq_true_eq, List.all_eq_true] at h
  have := inB_iff.1 h.2.2.2.2
  exact ⟨h.1, fun x hx => inB_iff.1 (h.2.1 x hx), h.2.2.1, h.2.2.2.1, this.1, this.2⟩
theorem gOk_at {n : Nat} {g : Nat → Int} (h : gOk n g = true) {k : Nat} (hk : k < n) : -100000 ≤ g k ∧ g k ≤ 100000 := by
  unfold gOk at h
  rw [List.all_eq_true] at h
  exact inB_iff.1 (h k (List.mem_range.2 hk))
theorem Rat.at {l : List Int} {t : Int} (h : Rat l t) : lowI l t < l.length := by
  rcases Nat.lt_or_ge (lowI l t) l.length with h' | h'
  · exact h'
  · have hx : l[l.length - 1]? = some (tempAt l (l.length - 1)) := by
      have := h.n0
      rw [tempAt_eq (List.getElem?_eq_getElem (show l.length - 1 < l.length by omega))]
      exact List.getElem?_eq_getElem _
    have := lowI_below (t := t) (by have := h.n0; omega) hx
    have := h.hi
    omega
/-- Between which temperatures it lies, if it is none of the table. -/
theorem Rat.between {l : List Int} {t : Int} (h : Rat l t) (hne : tempAt l (lowI l t) ≠ t) : ∃ i x y, lowI l t = i + 1 ∧ l[i + 1]? = some x ∧ l[i]? = some y ∧ y < t ∧ t < x ∧ 0 ≤ y ∧ x ≤ 60 := by
  have hlt := h.at
  have hge := lowI_at hlt
  obtain ⟨x, hx⟩ : ∃ x, l[lowI l t]? = some x := ⟨_, List.getElem?_eq_getElem hlt⟩
  rw [tempAt_eq hx] at hge hne
  cases hi : lowI l t with
  | zero =>
    rw [hi] at hx
    have := h.lo
    rw [tempAt_eq hx] at this
    omega
  | succ i =>
    rw [hi] at hx hlt
    obtain ⟨y, hy⟩ : ∃ y, l[i]? = some y := ⟨_, List.getElem?_eq_getElem (by omega)⟩
    have := lowI_below (t := t) (show i < lowI l t by omega) hy
    have b1 := h.b x (List.mem_of_getElem? hx)
    have b2 := h.b y (List.mem_of_getElem? hy)
    exact ⟨i, x, y, rfl, hx, hy, this, by omega, b2.1, b1.2⟩
theorem ints_get {l : List Int} {k : Nat} {x : Int} (h : l[k]? = some x) : (ints l)[k]? = some (.int .i64 x) := by unfold ints; rw [List.getElem?_map, h]; rfl
theorem mulB60 {a b : Int} (h1 : -100000 ≤ a) (h2 : a ≤ 100000) (h3 : 0 ≤ b) (h4 : b ≤ 60) : -6000000 ≤ a * b ∧ a * b ≤ 6000000 := by
  have e1 : -100000 * b ≤ a * b := Int.mul_le_mul_of_nonneg_right h1 h3
  have e2 : a * b ≤ 100000 * b := Int.mul_le_mul_of_nonneg_right h2 h3
  omega
end Go.Ok
namespace Go.Proofs.Ytadkjjnnnkfalaa
open Go.RowKit Go.Pm Go.Oc Go.Oh Go.Os Go.Ok
set_option maxRecDepth 100000
set_option linter.unusedVariables false
set_option maxHeartbeats 4000000

theorem kLow1_c {r : List Span} (f : Bool) {k : Nat} (hk : k < r.length) (tT : TV) (a b c d : Int) : PCalls Try.prog 98 [.int .i64 k, .cptr [tT, .sl (r.flatMap Span.cs) r.length f, .int .i64 a, .int .i64 b, .int .i64 c, .int .i64 d]] (.int .i64 (atS r k).lo) := by
  obtain ⟨x, hx⟩ : ∃ x, r[k]? = some x := ⟨_, List.getElem?_eq_getElem hk⟩
  have hd := flat_at Span.cs (n := 2) (fun _ => rfl) hx
  have ha := atS_eq hx
  have hki : (k : Int) < r.length := by omega
  obtain ⟨x0, x1⟩ := x
  refine pcalls_by Try.mixes noSpec_ok (fn := Try.f98) Try.func98 rfl (by kernel_rfl) (by show 2 ≤ _; decide) ?_
  simp (decide := true) (maxSteps := 4000000) only [go_sem, Nat.reduceAdd, Nat.reduceSub, Nat.reduceMul, Nat.reduceDiv, Nat.reduceMod, Nat.reduceLT, Nat.reduceLeDiff, Nat.reduceEqDiff, Nat.reduceBEq, Nat.reduceBNe, Nat.reduceGT, Int.reduceAdd, Int.reduceSub, Int.reduceMul, Int.reduceNeg, Int.reduceLT, Int.reduceLE, Int.reduceEq, Int.reduceNe, Int.reduceBEq, Int.reduceBNe, Int.reduceToNat, Int.reduceGT, Int.reduceGE, ↓reduceIte, decide_true, decide_false, eq_self, Nat.mul_one, Nat.zero_mul, Nat.one_mul, Int.le_refl, Nat.le_refl, Int.cast_ofNat_Int, Try.f98, hki, hd, ha, Span.cs]
noncomputable def ckLow1 : List TV → Option TV
  | [.int .i64 i, .cptr [tT, .sl cs n f, .int .i64 a, .int .i64 b, .int .i64 c, .int .i64 d]] => match unS cs with
    | some r => if (n = r.length ∧ 0 ≤ i) ∧ i < r.length then some (.int .i64 (atS r i.toNat).lo) else none
    | none => none
  | _ => none
theorem ckLow1_ok : ∀ xs r, ckLow1 xs = some r → PCalls Try.prog 98 xs r := by
  intro xs r h
  unfold ckLow1 at h
  split at h
  · split at h
    · rename_i l hl
      split at h
      · rename_i hc; cases h
        obtain ⟨⟨rfl, h1⟩, h2⟩ := hc
        have e := unS_some hl
        subst e
        rw [← Int.toNat_of_nonneg h1]
        exact kLow1_c _ (by omega) _ _ _ _ _
      · cases h
    · cases h
  · cases h
attribute [go_sem] ckLow1
theorem kHigh1_c {r : List Span} (f : Bool) {k : Nat} (hk : k < r.length) (tT : TV) (a b c d : Int) : PCalls Try.prog 99 [.int .i64 k, .cptr [tT, .sl (r.flatMap Span.cs) r.length f, .int .i64 a, .int .i64 b, .int .i64 c, .int .i64 d]] (.int .i64 (atS r k).hi) := by
  obtain ⟨x, hx⟩ : ∃ x, r[k]? = some x := ⟨_, List.getElem?_eq_getElem hk⟩
  have hd := flat_at Span.cs (n := 2) (fun _ => rfl) hx
  have ha := atS_eq hx
  have hki : (k : Int) < r.length := by omega
  obtain ⟨x0, x1⟩ := x
  refine pcalls_by Try.mixes noSpec_ok (fn := Try.f99) Try.func99 rfl (by kernel_rfl) (by show 2 ≤ _; decide) ?_
  simp (decide := true) (maxSteps := 4000000) only [go_sem, Nat.reduceAdd, Nat.reduceSub, Nat.reduceMul, Nat.reduceDiv, Nat.reduceMod, Nat.reduceLT, Nat.reduceLeDiff, Nat.reduceEqDiff, Nat.reduceBEq, Nat.reduceBNe, Nat.reduceGT, Int.reduceAdd, Int.reduceSub, Int.reduceMul, Int.reduceNeg, Int.reduceLT, Int.reduceLE, Int.reduceEq, Int.reduceNe, Int.reduceBEq, Int.reduceBNe, Int.reduceToNat, Int.reduceGT, Int.reduceGE, ↓reduceIte, decide_true, decide_false, eq_self, Nat.mul_one, Nat.zero_mul, Nat.one_mul, Int.le_refl, Nat.le_refl, Int.cast_ofNat_Int, Try.f99, hki, hd, ha, Span.cs]
noncomputable def ckHigh1 : List TV → Option TV
  | [.int .i64 i, .cptr [tT, .sl cs n f, .int .i64 a, .int .i64 b, .int .i64 c, .int .i64 d]] => match unS cs with
    | some r => if (n = r.length ∧ 0 ≤ i) ∧ i < r.length then some (.int .i64 (atS r i.toNat).hi) else none
    | none => none
  | _ => none
theorem ckHigh1_ok : ∀ xs r, ckHigh1 xs = some r → PCalls Try.prog 99 xs r := by
  intro xs r h
  unfold ckHigh1 at h
  split at h
  · split at h
    · rename_i l hl
      split at h
      · rename_i hc; cases h
        obtain ⟨⟨rfl, h1⟩, h2⟩ := hc
        have e := unS_some hl
        subst e
        rw [← Int.toNat_of_nonneg h1]
        exact kHigh1_c _ (by omega) _ _ _ _ _
      · cases h
    · cases h
  · cases h
attribute [go_sem] ckHigh1
theorem kErr1_c {r : List Int} (f : Bool) {k : Nat} (hk : k < r.length) (tT : TV) (a b : Int) : PCalls Try.prog 106 [.int .i64 k, .cptr [.sl (ints r) r.length f, .int .i64 a, .int .i64 b, tT]] (.int .i64 (tempAt r k)) := by
  obtain ⟨x, hx⟩ : ∃ x, r[k]? = some x := ⟨_, List.getElem?_eq_getElem hk⟩
  have hd := ints_at hx
  rw [Nat.mul_one] at hd
  have ha := tempAt_eq hx
  have hki : (k : Int) < r.length := by omega
  refine pcalls_by Try.mixes noSpec_ok (fn := Try.f106) Try.func106 rfl (by kernel_rfl) (by show 2 ≤ _; decide) ?_
  simp (decide := true) (maxSteps := 4000000) only [go_sem, Nat.reduceAdd, Nat.reduceSub, Nat.reduceMul, Nat.reduceDiv, Nat.reduceMod, Nat.reduceLT, Nat.reduceLeDiff, Nat.reduceEqDiff, Nat.reduceBEq, Nat.reduceBNe, Nat.reduceGT, Int.reduceAdd, Int.reduceSub, Int.reduceMul, Int.reduceNeg, Int.reduceLT, Int.reduceLE, Int.reduceEq, Int.reduceNe, Int.reduceBEq, Int.reduceBNe, Int.reduceToNat, Int.reduceGT, Int.reduceGE, ↓reduceIte, decide_true, decide_false, eq_self, Nat.mul_one, Nat.zero_mul, Nat.one_mul, Int.le_refl, Nat.le_refl, Int.cast_ofNat_Int, Try.f106, hki, hd, ha]
noncomputable def ckErr1 : List TV → Option TV
  | [.int .i64 i, .cptr [.sl cs n f, .int .i64 a, .int .i64 b, tT]] => match unI cs with
    | some r => if (n = r.length ∧ 0 ≤ i) ∧ i < r.length then some (.int .i64 (tempAt r i.toNat)) else none
    | none => none
  | _ => none
theorem ckErr1_ok : ∀ xs r, ckErr1 xs = some r → PCalls Try.prog 106 xs r := by
  intro xs r h
  unfold ckErr1 at h
  split at h
  · split at h
    · rename_i l hl
      split at h
      · rename_i hc; cases h
        obtain ⟨⟨rfl, h1⟩, h2⟩ := hc
        have e := unI_some hl
        rw [ic_ints] at e
        subst e
        rw [← Int.toNat_of_nonneg h1]
        exact kErr1_c _ (by omega) _ _ _
      · cases h
    · cases h
  · cases h
attribute [go_sem] ckErr1
noncomputable def spKd0 : Pm.Spec := (((spKc.one 98 ckLow1).one 99 ckHigh1).one 106 ckErr1)
@[go_sem] theorem spKd0_p (f : FuncId) (xs : List TV) : spKd0.p f xs = Pm.Spec.p ((((spKc.one 98 ckLow1).one 99 ckHigh1).one 106 ckErr1)) f xs := rfl
@[go_sem] theorem spKd0_h (f : FuncId) (ps : List PV) (hl : List PO) : spKd0.h f ps hl = Pm.Spec.h ((((spKc.one 98 ckLow1).one 99 ckHigh1).one 106 ckErr1)) f ps hl := rfl
@[go_sem] theorem spKd0_y (Y : Pm.YS) (f : FuncId) (ps : List PV) (hl : List PO) : spKd0.y Y f ps hl = Pm.Spec.y ((((spKc.one 98 ckLow1).one 99 ckHigh1).one 106 ckErr1)) Y f ps hl := rfl
@[go_sem] theorem spKd0_fz (f : FuncId) : spKd0.fz f = Pm.Spec.fz ((((spKc.one 98 ckLow1).one 99 ckHigh1).one 106 ckErr1)) f := rfl
@[go_sem] theorem spKd0_fr (f : FuncId) : spKd0.fr f = Pm.Spec.fr ((((spKc.one 98 ckLow1).one 99 ckHigh1).one 106 ckErr1)) f := rfl
@[go_sem] theorem spKd0_yf (f : FuncId) : spKd0.yf f = Pm.Spec.yf ((((spKc.one 98 ckLow1).one 99 ckHigh1).one 106 ckErr1)) f := rfl
@[go_sem] theorem spKd0_mu (t : TypeId) : spKd0.mu t = Pm.Spec.mu ((((spKc.one 98 ckLow1).one 99 ckHigh1).one 106 ckErr1)) t := rfl
@[go_sem] theorem spKd0_nf (t : TypeId) : spKd0.nf t = Pm.Spec.nf ((((spKc.one 98 ckLow1).one 99 ckHigh1).one 106 ckErr1)) t := rfl
theorem spKd0_ok : SpecOk Try.prog spKd0 := Spec.one_ok ckErr1_ok (Spec.one_ok ckHigh1_ok (Spec.one_ok ckLow1_ok spKc_ok))

theorem kRateLow_c {l : List Int} {t : Int} (f : Bool) (hl : ratOk l t = true) (r : List Span) (hr : r.length = l.length) (fr : Bool) (tT : TV) (a b c d : Int) (hg : gOk l.length (fun k => (atS r k).lo) = true) : PCalls Try.prog 146 [.agg [.sl (ints l) l.length f, .fn 98 [] [.cptr [tT, .sl (r.flatMap Span.cs) r.length fr, .int .i64 a, .int .i64 b, .int .i64 c, .int .i64 d]]], .int .i64 t] (.int .i64 (rateP l (fun k => (atS r k).lo) t)) := by
  have hR := ratOk_iff hl
  have hinc := hR.inc
  have hn1 : l.length ≤ 1000 := by have := hR.n1; omega
  have hat := hR.at
  have hat' : (lowI l t : Int) < l.length := by omega
  have uI : ∀ l : List Int, unI (ints l) = some l := fun l => by rw [← ic_ints]; exact unI_ic _
  have h0 : (0 : Int) ≤ (lowI l t : Int) := by omega
  refine pcalls_by Try.mixes spKd0_ok (fn := Try.f146) Try.func146 rfl (by kernel_rfl) (by show 2 ≤ _; decide) ?_
  unfold rateP
  by_cases hm : tempAt l (lowI l t) = t
  · simp (decide := true) (maxSteps := 4000000) only [go_sem, Nat.reduceAdd, Nat.reduceSub, Nat.reduceMul, Nat.reduceDiv, Nat.reduceMod, Nat.reduceLT, Nat.reduceLeDiff, Nat.reduceEqDiff, Nat.reduceBEq, Nat.reduceBNe, Nat.reduceGT, Int.reduceAdd, Int.reduceSub, Int.reduceMul, Int.reduceNeg, Int.reduceLT, Int.reduceLE, Int.reduceEq, Int.reduceNe, Int.reduceBEq, Int.reduceBNe, Int.reduceToNat, Int.reduceGT, Int.reduceGE, ↓reduceIte, decide_true, decide_false, eq_self, Nat.mul_one, Nat.zero_mul, Nat.one_mul, Int.le_refl, Nat.le_refl, Int.cast_ofNat_Int, Try.f146, uI, hinc, hn1, hat, hm, unS_eq, hr, hat', h0]
  · obtain ⟨i, x, y, e, hx, hy, b1, b2, b3, b4⟩ := hR.between hm
    have hil := (List.getElem?_eq_some_iff.1 hx).1
    have hdx := ints_at hx
    have hdy := ints_at hy
    rw [Nat.mul_one] at hdx hdy
    have tx := tempAt_eq hx
    have ty := tempAt_eq hy
    have g1 := gOk_at hg (k := i + 1) (by omega)
    have g2 := gOk_at hg (k := i) (by omega)
    try simp only at g1 g2
    have e1 : (((i + 1 : Nat) : Int)) < l.length := by omega
    have e2 : ((i : Nat) : Int) < l.length := by omega
    have w0 : IntKind.i64.wrap (((i + 1 : Nat) : Int) - 1) = (i : Int) := by rw [wrap_in (by omega) (by omega)]; omega
    have w1 : IntKind.i64.wrap (x - y) = x - y := wrap_in (by omega) (by omega)
    have w2 : IntKind.i64.wrap (t - y) = t - y := wrap_in (by omega) (by omega)
    have w3 : IntKind.i64.wrap (x - y - (t - y)) = x - y - (t - y) := wrap_in (by omega) (by omega)
    obtain ⟨G1, hG1⟩ : ∃ G1, (fun k => (atS r k).lo) (i + 1) = G1 := ⟨_, rfl⟩
    obtain ⟨G2, hG2⟩ : ∃ G2, (fun k => (atS r k).lo) i = G2 := ⟨_, rfl⟩
    try simp only at hG1 hG2
    rw [hG1] at g1
    rw [hG2] at g2
    have m1 : -6000000 ≤ G2 * (x - y - (t - y)) ∧ G2 * (x - y - (t - y)) ≤ 6000000 := mulB60 (by omega) (by omega) (by omega) (by omega)
    have m2 : -6000000 ≤ G1 * (t - y) ∧ G1 * (t - y) ≤ 6000000 := mulB60 (by omega) (by omega) (by omega) (by omega)
    have w4 : IntKind.i64.wrap (G2 * (x - y - (t - y))) = G2 * (x - y - (t - y)) := wrap_in (by omega) (by omega)
    have w5 : IntKind.i64.wrap (G1 * (t - y)) = G1 * (t - y) := wrap_in (by omega) (by omega)
    have w6 : IntKind.i64.wrap (G2 * (x - y - (t - y)) + G1 * (t - y)) = G2 * (x - y - (t - y)) + G1 * (t - y) := wrap_in (by omega) (by omega)
    have c1 : 0 < x - y := by omega
    have c2 : -1000000000000000 ≤ G2 * (x - y - (t - y)) + G1 * (t - y) ∧ G2 * (x - y - (t - y)) + G1 * (t - y) ≤ 1000000000000000 := by omega
    have hm' : ¬ x = t := by omega
    have e3 : (0 : Int) ≤ ((i + 1 : Nat) : Int) := by omega
    have e4 : (0 : Int) ≤ (i : Int) := by omega
    have e5 : i + 1 - 1 = i := by omega
    have e6 : i + 1 < l.length := by omega
    have e7 : i < l.length := by omega
    simp only [e, e5, tx, ty]
    simp (decide := true) (maxSteps := 4000000) only [go_sem, Nat.reduceAdd, Nat.reduceSub, Nat.reduceMul, Nat.reduceDiv, Nat.reduceMod, Nat.reduceLT, Nat.reduceLeDiff, Nat.reduceEqDiff, Nat.reduceBEq, Nat.reduceBNe, Nat.reduceGT, Int.reduceAdd, Int.reduceSub, Int.reduceMul, Int.reduceNeg, Int.reduceLT, Int.reduceLE, Int.reduceEq, Int.reduceNe, Int.reduceBEq, Int.reduceBNe, Int.reduceToNat, Int.reduceGT, Int.reduceGE, ↓reduceIte, decide_true, decide_false, eq_self, Nat.mul_one, Nat.zero_mul, Nat.one_mul, Int.le_refl, Nat.le_refl, Int.cast_ofNat_Int, Try.f146, uI, hinc, hn1, e, tx, hm', unS_eq, hr, hdx, hdy, e1, e2, e3, e4, e6, e7, w0, w1, w2, w3, w4, w5, w6, c1, c2, hG1, hG2]
theorem kRateHigh_c {l : List Int} {t : Int} (f : Bool) (hl : ratOk l t = true) (r : List Span) (hr : r.length = l.length) (fr : Bool) (tT : TV) (a b c d : Int) (hg : gOk l.length (fun k => (atS r k).hi) = true) : PCalls Try.prog 146 [.agg [.sl (ints l) l.length f, .fn 99 [] [.cptr [tT, .sl (r.flatMap Span.cs) r.length fr, .int .i64 a, .int .i64 b, .int .i64 c, .int .i64 d]]], .int .i64 t] (.int .i64 (rateP l (fun k => (atS r k).hi) t)) := by
  have hR := ratOk_iff hl
  have hinc := hR.inc
  have hn1 : l.length ≤ 1000 := by have := hR.n1; omega
  have hat := hR.at
  have hat' : (lowI l t : Int) < l.length := by omega
  have uI : ∀ l : List Int, unI (ints l) = some l := fun l => by rw [← ic_ints]; exact unI_ic _
  have h0 : (0 : Int) ≤ (lowI l t : Int) := by omega
  refine pcalls_by Try.mixes spKd0_ok (fn := Try.f146) Try.func146 rfl (by kernel_rfl) (by show 2 ≤ _; decide) ?_
  unfold rateP
  by_cases hm : tempAt l (lowI l t) = t
  · simp (decide := true) (maxSteps := 4000000) only [go_sem, Nat.reduceAdd, Nat.reduceSub, Nat.reduceMul, Nat.reduceDiv, Nat.reduceMod, Nat.reduceLT, Nat.reduceLeDiff, Nat.reduceEqDiff, Nat.reduceBEq, Nat.reduceBNe, Nat.reduceGT, Int.reduceAdd, Int.reduceSub, Int.reduceMul, Int.reduceNeg, Int.reduceLT, Int.reduceLE, Int.reduceEq, Int.reduceNe, Int.reduceBEq, Int.reduceBNe, Int.reduceToNat, Int.reduceGT, Int.reduceGE, ↓reduceIte, decide_true, decide_false, eq_self, Nat.mul_one, Nat.zero_mul, Nat.one_mul, Int.le_refl, Nat.le_refl, Int.cast_ofNat_Int, Try.f146, uI, hinc, hn1, hat, hm, unS_eq, hr, hat', h0]
  · obtain ⟨i, x, y, e, hx, hy, b1, b2, b3, b4⟩ := hR.between hm
    have hil := (List.getElem?_eq_some_iff.1 hx).1
    have hdx := ints_at hx
    have hdy := ints_at hy
    rw [Nat.mul_one] at hdx hdy
    have tx := tempAt_eq hx
    have ty := tempAt_eq hy
    have g1 := gOk_at hg (k := i + 1) (by omega)
    have g2 := gOk_at hg (k := i) (by omega)
    try simp only at g1 g2
    have e1 : (((i + 1 : Nat) : Int)) < l.length := by omega
    have e2 : ((i : Nat) : Int) < l.length := by omega
    have w0 : IntKind.i64.wrap (((i + 1 : Nat) : Int) - 1) = (i : Int) := by rw [wrap_in (by omega) (by omega)]; omega
    have w1 : IntKind.i64.wrap (x - y) = x - y := wrap_in (by omega) (by omega)
    have w2 : IntKind.i64.wrap (t - y) = t - y := wrap_in (by omega) (by omega)
    have w3 : IntKind.i64.wrap (x - y - (t - y)) = x - y - (t - y) := wrap_in (by omega) (by omega)
    obtain ⟨G1, hG1⟩ : ∃ G1, (fun k => (atS r k).hi) (i + 1) = G1 := ⟨_, rfl⟩
    obtain ⟨G2, hG2⟩ : ∃ G2, (fun k => (atS r k).hi) i = G2 := ⟨_, rfl⟩
    try simp only at hG1 hG2
    rw [hG1] at g1
    rw [hG2] at g2
    have m1 : -6000000 ≤ G2 * (x - y - (t - y)) ∧ G2 * (x - y - (t - y)) ≤ 6000000 := mulB60 (by omega) (by omega) (by omega) (by omega)
    have m2 : -6000000 ≤ G1 * (t - y) ∧ G1 * (t - y) ≤ 6000000 := mulB60 (by omega) (by omega) (by omega) (by omega)
    have w4 : IntKind.i64.wrap (G2 * (x - y - (t - y))) = G2 * (x - y - (t - y)) := wrap_in (by omega) (by omega)
    have w5 : IntKind.i64.wrap (G1 * (t - y)) = G1 * (t - y) := wrap_in (by omega) (by omega)
    have w6 : IntKind.i64.wrap (G2 * (x - y - (t - y)) + G1 * (t - y)) = G2 * (x - y - (t - y)) + G1 * (t - y) := wrap_in (by omega) (by omega)
    have c1 : 0 < x - y := by omega
    have c2 : -1000000000000000 ≤ G2 * (x - y - (t - y)) + G1 * (t - y) ∧ G2 * (x - y - (t - y)) + G1 * (t - y) ≤ 1000000000000000 := by omega
    have hm' : ¬ x = t := by omega
    have e3 : (0 : Int) ≤ ((i + 1 : Nat) : Int) := by omega
    have e4 : (0 : Int) ≤ (i : Int) := by omega
    have e5 : i + 1 - 1 = i := by omega
    have e6 : i + 1 < l.length := by omega
    have e7 : i < l.length := by omega
    simp only [e, e5, tx, ty]
    simp (decide := true) (maxSteps := 4000000) only [go_sem, Nat.reduceAdd, Nat.reduceSub, Nat.reduceMul, Nat.reduceDiv, Nat.reduceMod, Nat.reduceLT, Nat.reduceLeDiff, Nat.reduceEqDiff, Nat.reduceBEq, Nat.reduceBNe, Nat.reduceGT, Int.reduceAdd, Int.reduceSub, Int.reduceMul, Int.reduceNeg, Int.reduceLT, Int.reduceLE, Int.reduceEq, Int.reduceNe, Int.reduceBEq, Int.reduceBNe, Int.reduceToNat, Int.reduceGT, Int.reduceGE, ↓reduceIte, decide_true, decide_false, eq_self, Nat.mul_one, Nat.zero_mul, Nat.one_mul, Int.le_refl, Nat.le_refl, Int.cast_ofNat_Int, Try.f146, uI, hinc, hn1, e, tx, hm', unS_eq, hr, hdx, hdy, e1, e2, e3, e4, e6, e7, w0, w1, w2, w3, w4, w5, w6, c1, c2, hG1, hG2]
theorem kRateTr_c {l : List Int} {t : Int} (f : Bool) (hl : ratOk l t = true) (r : List Int) (hr : r.length = l.length) (fr : Bool) (tT : TV) (a b : Int) (hg : gOk l.length (fun k => tempAt r k) = true) : PCalls Try.prog 146 [.agg [.sl (ints l) l.length f, .fn 106 [] [.cptr [.sl (ints r) r.length fr, .int .i64 a, .int .i64 b, tT]]], .int .i64 t] (.int .i64 (rateP l (fun k => tempAt r k) t)) := by
  have hR := ratOk_iff hl
  have hinc := hR.inc
  have hn1 : l.length ≤ 1000 := by have := hR.n1; omega
  have hat := hR.at
  have hat' : (lowI l t : Int) < l.length := by omega
  have uI : ∀ l : List Int, unI (ints l) = some l := fun l => by rw [← ic_ints]; exact unI_ic _
  have h0 : (0 : Int) ≤ (lowI l t : Int) := by omega
  refine pcalls_by Try.mixes spKd0_ok (fn := Try.f146) Try.func146 rfl (by kernel_rfl) (by show 2 ≤ _; decide) ?_
  unfold rateP
  by_cases hm : tempAt l (lowI l t) = t
  · simp (decide := true) (maxSteps := 4000000) only [go_sem, Nat.reduceAdd, Nat.reduceSub, Nat.reduceMul, Nat.reduceDiv, Nat.reduceMod, Nat.reduceLT, Nat.reduceLeDiff, Nat.reduceEqDiff, Nat.reduceBEq, Nat.reduceBNe, Nat.reduceGT, Int.reduceAdd, Int.reduceSub, Int.reduceMul, Int.reduceNeg, Int.reduceLT, Int.reduceLE, Int.reduceEq, Int.reduceNe, Int.reduceBEq, Int.reduceBNe, Int.reduceToNat, Int.reduceGT, Int.reduceGE, ↓reduceIte, decide_true, decide_false, eq_self, Nat.mul_one, Nat.zero_mul, Nat.one_mul, Int.le_refl, Nat.le_refl, Int.cast_ofNat_Int, Try.f146, uI, hinc, hn1, hat, hm, uI, hr, hat', h0]
  · obtain ⟨i, x, y, e, hx, hy, b1, b2, b3, b4⟩ := hR.between hm
    have hil := (List.getElem?_eq_some_iff.1 hx).1
    have hdx := ints_at hx
    have hdy := ints_at hy
    rw [Nat.mul_one] at hdx hdy
    have tx := tempAt_eq hx
    have ty := tempAt_eq hy
    have g1 := gOk_at hg (k := i + 1) (by omega)
    have g2 := gOk_at hg (k := i) (by omega)
    try simp only at g1 g2
    have e1 : (((i + 1 : Nat) : Int)) < l.length := by omega
    have e2 : ((i : Nat) : Int) < l.length := by omega
    have w0 : IntKind.i64.wrap (((i + 1 : Nat) : Int) - 1) = (i : Int) := by rw [wrap_in (by omega) (by omega)]; omega
    have w1 : IntKind.i64.wrap (x - y) = x - y := wrap_in (by omega) (by omega)
    have w2 : IntKind.i64.wrap (t - y) = t - y := wrap_in (by omega) (by omega)
    have w3 : IntKind.i64.wrap (x - y - (t - y)) = x - y - (t - y) := wrap_in (by omega) (by omega)
    obtain ⟨G1, hG1⟩ : ∃ G1, (fun k => tempAt r k) (i + 1) = G1 := ⟨_, rfl⟩
    obtain ⟨G2, hG2⟩ : ∃ G2, (fun k => tempAt r k) i = G2 := ⟨_, rfl⟩
    try simp only at hG1 hG2
    rw [hG1] at g1
    rw [hG2] at g2
    have m1 : -6000000 ≤ G2 * (x - y - (t - y)) ∧ G2 * (x - y - (t - y)) ≤ 6000000 := mulB60 (by omega) (by omega) (by omega) (by omega)
    have m2 : -6000000 ≤ G1 * (t - y) ∧ G1 * (t - y) ≤ 6000000 := mulB60 (by omega) (by omega) (by omega) (by omega)
    have w4 : IntKind.i64.wrap (G2 * (x - y - (t - y))) = G2 * (x - y - (t - y)) := wrap_in (by omega) (by omega)
    have w5 : IntKind.i64.wrap (G1 * (t - y)) = G1 * (t - y) := wrap_in (by omega) (by omega)
    have w6 : IntKind.i64.wrap (G2 * (x - y - (t - y)) + G1 * (t - y)) = G2 * (x - y - (t - y)) + G1 * (t - y) := wrap_in (by omega) (by omega)
    have c1 : 0 < x - y := by omega
    have c2 : -1000000000000000 ≤ G2 * (x - y - (t - y)) + G1 * (t - y) ∧ G2 * (x - y - (t - y)) + G1 * (t - y) ≤ 1000000000000000 := by omega
    have hm' : ¬ x = t := by omega
    have e3 : (0 : Int) ≤ ((i + 1 : Nat) : Int) := by omega
    have e4 : (0 : Int) ≤ (i : Int) := by omega
    have e5 : i + 1 - 1 = i := by omega
    have e6 : i + 1 < l.length := by omega
    have e7 : i < l.length := by omega
    simp only [e, e5, tx, ty]
    simp (decide := true) (maxSteps := 4000000) only [go_sem, Nat.reduceAdd, Nat.reduceSub, Nat.reduceMul, Nat.reduceDiv, Nat.reduceMod, Nat.reduceLT, Nat.reduceLeDiff, Nat.reduceEqDiff, Nat.reduceBEq, Nat.reduceBNe, Nat.reduceGT, Int.reduceAdd, Int.reduceSub, Int.reduceMul, Int.reduceNeg, Int.reduceLT, Int.reduceLE, Int.reduceEq, Int.reduceNe, Int.reduceBEq, Int.reduceBNe, Int.reduceToNat, Int.reduceGT, Int.reduceGE, ↓reduceIte, decide_true, decide_false, eq_self, Nat.mul_one, Nat.zero_mul, Nat.one_mul, Int.le_refl, Nat.le_refl, Int.cast_ofNat_Int, Try.f146, uI, hinc, hn1, e, tx, hm', uI, hr, hdx, hdy, e1, e2, e3, e4, e6, e7, w0, w1, w2, w3, w4, w5, w6, c1, c2, hG1, hG2]
end Go.Proofs.Ytadkjjnnnkfalaa

/- Part Ke. -/
namespace Go.Ok
open Go Go.RowKit Go.Pm Go.Oc Go.Oh Go.Os
def degV (s : Span) : List (List TV) := (List.range (s.hi - s.lo + 1).toNat).map fun k => [.int .i64 (s.lo + (k : Nat))]
theorem degV_len (s : Span) : (degV s).length = (s.hi - s.lo + 1).toNat := by simp [degV]
theorem degV_at (s : Span) {k : Nat} (h : k < (s.hi - s.lo + 1).toNat) : (degV s)[k]? = some [.int .i64 (s.lo + k)] := by
  unfold degV; rw [List.getElem?_map, range_get, if_pos h]; rfl
def minL (a : Int) (l : List Int) : Int := l.foldl min a
def maxL (a : Int) (l : List Int) : Int := l.foldl max a
end Go.Ok
namespace Go.Proofs.Ytadkjjnnnkfalaa
open Go.RowKit Go.Pm Go.Oc Go.Oh Go.Os Go.Ok
set_option maxRecDepth 100000
set_option linter.unusedVariables false
set_option maxHeartbeats 4000000

noncomputable def rateG (l : List Int) (t : Int) (F : FuncId) : List TV → Option TV
  | [tT, .sl rc m fr, .int .i64 a, .int .i64 b, .int .i64 c, .int .i64 d] => match unS rc with
    | some r => if m = r.length ∧ r.length = l.length then
        (if F = 98 ∧ gOk l.length (fun k => (atS r k).lo) = true then some (.int .i64 (rateP l (fun k => (atS r k).lo) t))
        else if F = 99 ∧ gOk l.length (fun k => (atS r k).hi) = true then some (.int .i64 (rateP l (fun k => (atS r k).hi) t)) else none) else none
    | none => none
  | [.sl rc m fr, .int .i64 a, .int .i64 b, tT] => match unI rc with
    | some r => if (m = r.length ∧ r.length = l.length) ∧ (F = 106 ∧ gOk l.length (fun k => tempAt r k) = true) then some (.int .i64 (rateP l (fun k => tempAt r k) t)) else none
    | none => none
  | _ => none
noncomputable def ckRate : List TV → Option TV
  | [.agg [.sl cs n f, .fn F [] [.cptr cc]], .int .i64 t] => match unI cs with
    | some l => if n = l.length ∧ ratOk l t = true then rateG l t F cc else none
    | none => none
  | _ => none
theorem ckRate_ok : ∀ xs r, ckRate xs = some r → PCalls Try.prog 146 xs r := by
  intro xs r h
  unfold ckRate at h
  split at h
  · split at h
    · rename_i l hl
      split at h
      · rename_i hc
        obtain ⟨rfl, h1⟩ := hc
        have e := unI_some hl
        rw [ic_ints] at e
        subst e
        unfold rateG at h
        split at h
        · split at h
          · rename_i r' hr
            have e2 := unS_some hr
            subst e2
            split at h
            · rename_i hc2
              obtain ⟨rfl, h3⟩ := hc2
              split at h
              · rename_i h4; cases h; obtain ⟨rfl, h5⟩ := h4
                exact kRateLow_c _ h1 _ h3 _ _ _ _ _ _ h5
              · split at h
                · rename_i h4; cases h; obtain ⟨rfl, h5⟩ := h4
                  exact kRateHigh_c _ h1 _ h3 _ _ _ _ _ _ h5
                · cases h
            · cases h
          · cases h
        · split at h
          · rename_i r' hr
            have e2 := unI_some hr
            rw [ic_ints] at e2
            subst e2
            split at h
            · rename_i hc2; cases h
              obtain ⟨⟨rfl, h3⟩, rfl, h5⟩ := hc2
              exact kRateTr_c _ h1 _ h3 _ _ _ _ h5
            · cases h
          · cases h
        · cases h
      · cases h
    · cases h
  · cases h
attribute [go_sem] ckRate rateG
noncomputable def spKz : Pm.Spec := { noSpec with fz := fun _ => true }
@[go_sem] theorem spKz_p (f : FuncId) (xs : List TV) : spKz.p f xs = Pm.Spec.p ({ noSpec with fz := fun _ => true }) f xs := rfl
@[go_sem] theorem spKz_h (f : FuncId) (ps : List PV) (hl : List PO) : spKz.h f ps hl = Pm.Spec.h ({ noSpec with fz := fun _ => true }) f ps hl := rfl
@[go_sem] theorem spKz_y (Y : Pm.YS) (f : FuncId) (ps : List PV) (hl : List PO) : spKz.y Y f ps hl = Pm.Spec.y ({ noSpec with fz := fun _ => true }) Y f ps hl := rfl
@[go_sem] theorem spKz_fz (f : FuncId) : spKz.fz f = Pm.Spec.fz ({ noSpec with fz := fun _ => true }) f := rfl
@[go_sem] theorem spKz_fr (f : FuncId) : spKz.fr f = Pm.Spec.fr ({ noSpec with fz := fun _ => true }) f := rfl
@[go_sem] theorem spKz_yf (f : FuncId) : spKz.yf f = Pm.Spec.yf ({ noSpec with fz := fun _ => true }) f := rfl
@[go_sem] theorem spKz_mu (t : TypeId) : spKz.mu t = Pm.Spec.mu ({ noSpec with fz := fun _ => true }) t := rfl
@[go_sem] theorem spKz_nf (t : TypeId) : spKz.nf t = Pm.Spec.nf ({ noSpec with fz := fun _ => true }) t := rfl
theorem spKz_ok : SpecOk Try.prog spKz := noSpec_ok
theorem kLow_c (cs : List TV) (n : Nat) (f : Bool) (tR : TV) (a b c d : Int) : PCalls Try.prog 61 [.agg [.sl cs n f, tR, .int .i64 a, .int .i64 b, .int .i64 c, .int .i64 d]] (.ifc 206 (.agg [.sl cs n f, .fn 98 [] [.cptr [.sl cs n f, tR, .int .i64 a, .int .i64 b, .int .i64 c, .int .i64 d]]])) := by
  refine pcalls_by Try.mixes spKz_ok (fn := Try.f61) Try.func61 rfl (by kernel_rfl) (by show 1 ≤ _; decide) ?_
  simp (decide := true) (maxSteps := 4000000) only [go_sem, Nat.reduceAdd, Nat.reduceSub, Nat.reduceMul, Nat.reduceDiv, Nat.reduceMod, Nat.reduceLT, Nat.reduceLeDiff, Nat.reduceEqDiff, Nat.reduceBEq, Nat.reduceBNe, Nat.reduceGT, Int.reduceAdd, Int.reduceSub, Int.reduceMul, Int.reduceNeg, Int.reduceLT, Int.reduceLE, Int.reduceEq, Int.reduceNe, Int.reduceBEq, Int.reduceBNe, Int.reduceToNat, Int.reduceGT, Int.reduceGE, ↓reduceIte, decide_true, decide_false, eq_self, Nat.mul_one, Nat.zero_mul, Nat.one_mul, Int.le_refl, Nat.le_refl, Int.cast_ofNat_Int, Try.f61]
noncomputable def ckLow : List TV → Option TV
  | [.agg [.sl cs n f, tR, .int .i64 a, .int .i64 b, .int .i64 c, .int .i64 d]] => some (.ifc 206 (.agg [.sl cs n f, .fn 98 [] [.cptr [.sl cs n f, tR, .int .i64 a, .int .i64 b, .int .i64 c, .int .i64 d]]]))
  | _ => none
theorem ckLow_ok : ∀ xs r, ckLow xs = some r → PCalls Try.prog 61 xs r := by
  intro xs r h
  unfold ckLow at h
  split at h
  · cases h; exact kLow_c _ _ _ _ _ _ _ _
  · cases h
attribute [go_sem] ckLow
theorem kHigh_c (cs : List TV) (n : Nat) (f : Bool) (tR : TV) (a b c d : Int) : PCalls Try.prog 62 [.agg [.sl cs n f, tR, .int .i64 a, .int .i64 b, .int .i64 c, .int .i64 d]] (.ifc 206 (.agg [.sl cs n f, .fn 99 [] [.cptr [.sl cs n f, tR, .int .i64 a, .int .i64 b, .int .i64 c, .int .i64 d]]])) := by
  refine pcalls_by Try.mixes spKz_ok (fn := Try.f62) Try.func62 rfl (by kernel_rfl) (by show 1 ≤ _; decide) ?_
  simp (decide := true) (maxSteps := 4000000) only [go_sem, Nat.reduceAdd, Nat.reduceSub, Nat.reduceMul, Nat.reduceDiv, Nat.reduceMod, Nat.reduceLT, Nat.reduceLeDiff, Nat.reduceEqDiff, Nat.reduceBEq, Nat.reduceBNe, Nat.reduceGT, Int.reduceAdd, Int.reduceSub, Int.reduceMul, Int.reduceNeg, Int.reduceLT, Int.reduceLE, Int.reduceEq, Int.reduceNe, Int.reduceBEq, Int.reduceBNe, Int.reduceToNat, Int.reduceGT, Int.reduceGE, ↓reduceIte, decide_true, decide_false, eq_self, Nat.mul_one, Nat.zero_mul, Nat.one_mul, Int.le_refl, Nat.le_refl, Int.cast_ofNat_Int, Try.f62]
noncomputable def ckHigh : List TV → Option TV
  | [.agg [.sl cs n f, tR, .int .i64 a, .int .i64 b, .int .i64 c, .int .i64 d]] => some (.ifc 206 (.agg [.sl cs n f, .fn 99 [] [.cptr [.sl cs n f, tR, .int .i64 a, .int .i64 b, .int .i64 c, .int .i64 d]]]))
  | _ => none
theorem ckHigh_ok : ∀ xs r, ckHigh xs = some r → PCalls Try.prog 62 xs r := by
  intro xs r h
  unfold ckHigh at h
  split at h
  · cases h; exact kHigh_c _ _ _ _ _ _ _ _
  · cases h
attribute [go_sem] ckHigh
theorem kDegrees_c (a b : Int) : PCalls Try.prog 63 [.agg [.int .i64 a, .int .i64 b]] (.fn 100 [] [.cptr [.int .i64 a, .int .i64 b]]) := by
  refine pcalls_by Try.mixes spKz_ok (fn := Try.f63) Try.func63 rfl (by kernel_rfl) (by show 1 ≤ _; decide) ?_
  simp (decide := true) (maxSteps := 4000000) only [go_sem, Nat.reduceAdd, Nat.reduceSub, Nat.reduceMul, Nat.reduceDiv, Nat.reduceMod, Nat.reduceLT, Nat.reduceLeDiff, Nat.reduceEqDiff, Nat.reduceBEq, Nat.reduceBNe, Nat.reduceGT, Int.reduceAdd, Int.reduceSub, Int.reduceMul, Int.reduceNeg, Int.reduceLT, Int.reduceLE, Int.reduceEq, Int.reduceNe, Int.reduceBEq, Int.reduceBNe, Int.reduceToNat, Int.reduceGT, Int.reduceGE, ↓reduceIte, decide_true, decide_false, eq_self, Nat.mul_one, Nat.zero_mul, Nat.one_mul, Int.le_refl, Nat.le_refl, Int.cast_ofNat_Int, Try.f63]
noncomputable def ckDegrees : List TV → Option TV
  | [.agg [.int .i64 a, .int .i64 b]] => some (.fn 100 [] [.cptr [.int .i64 a, .int .i64 b]])
  | _ => none
theorem ckDegrees_ok : ∀ xs r, ckDegrees xs = some r → PCalls Try.prog 63 xs r := by
  intro xs r h
  unfold ckDegrees at h
  split at h
  · cases h; exact kDegrees_c _ _
  · cases h
attribute [go_sem] ckDegrees
theorem kDegI_c (s : Span) (h : -1000 ≤ s.lo ∧ s.hi ≤ 1000) : Iter Try.prog 100 [] [.cptr [.int .i64 s.lo, .int .i64 s.hi]] (degV s) := by
  have hl := degV_len s
  refine iter_by Try.mixes noSpec_ok (fn := Try.f100) Try.func100 rfl (by kernel_rfl) rfl (by show 2 ≤ _; decide) ?_
  intro y M stop hm1 hm2 hm3
  obtain ⟨lo, hi⟩ := s
  simp only at *
  simp (decide := true) (maxSteps := 4000000) only [go_sem, Nat.reduceAdd, Nat.reduceSub, Nat.reduceMul, Nat.reduceDiv, Nat.reduceMod, Nat.reduceLT, Nat.reduceLeDiff, Nat.reduceEqDiff, Nat.reduceBEq, Nat.reduceBNe, Nat.reduceGT, Int.reduceAdd, Int.reduceSub, Int.reduceMul, Int.reduceNeg, Int.reduceLT, Int.reduceLE, Int.reduceEq, Int.reduceNe, Int.reduceBEq, Int.reduceBNe, Int.reduceToNat, Int.reduceGT, Int.reduceGE, ↓reduceIte, decide_true, decide_false, eq_self, Nat.mul_one, Nat.zero_mul, Nat.one_mul, Int.le_refl, Nat.le_refl, Int.cast_ofNat_Int, Try.f100]
  refine pwpC_loopU (A := { k : Nat // k ≤ (hi - lo + 1).toNat ∧ (stop = true → k < M) }) [0, 1, 2] (fun k => [(3, .t (.int .i64 (lo + (k.1 : Nat))))]) (fun k => [(0, .cnt k.1)]) (fun k => (hi - lo + 1).toNat - k.1) ⟨0, by omega, fun h => hm3 h⟩ (by decide) (fun _ => by rfl) ?_ fun Q1 hQ1 ⟨k, hk, hst⟩ I1 hI1 => ?_
  · simp (decide := true) (maxSteps := 4000000) only [go_sem, Nat.reduceAdd, Nat.reduceSub, Nat.reduceMul, Nat.reduceDiv, Nat.reduceMod, Nat.reduceLT, Nat.reduceLeDiff, Nat.reduceEqDiff, Nat.reduceBEq, Nat.reduceBNe, Nat.reduceGT, Int.reduceAdd, Int.reduceSub, Int.reduceMul, Int.reduceNeg, Int.reduceLT, Int.reduceLE, Int.reduceEq, Int.reduceNe, Int.reduceBEq, Int.reduceBNe, Int.reduceToNat, Int.reduceGT, Int.reduceGE, ↓reduceIte, decide_true, decide_false, eq_self, Nat.mul_one, Nat.zero_mul, Nat.one_mul, Int.le_refl, Nat.le_refl, Int.cast_ofNat_Int]
    try omega
  · by_cases hlt : lo + (k : Int) ≤ hi
    · have hkN : k < (hi - lo + 1).toNat := by omega
      have hat := degV_at ⟨lo, hi⟩ hkN
      have hw : IntKind.i64.wrap (lo + (k : Int) + 1) = lo + ((k + 1 : Nat) : Int) := by rw [wrap_in (by omega) (by omega)]; omega
      have hcm : k < M := by
        cases stop with
        | true => exact hst rfl
        | false => rw [hm2 rfl, hl]; exact hkN
      by_cases hs : (stop && k + 1 == M) = true
      · have hs' := hs
        simp only [Bool.and_eq_true, beq_iff_eq] at hs'
        simp (decide := true) (maxSteps := 4000000) only [go_sem, Nat.reduceAdd, Nat.reduceSub, Nat.reduceMul, Nat.reduceDiv, Nat.reduceMod, Nat.reduceLT, Nat.reduceLeDiff, Nat.reduceEqDiff, Nat.reduceBEq, Nat.reduceBNe, Nat.reduceGT, Int.reduceAdd, Int.reduceSub, Int.reduceMul, Int.reduceNeg, Int.reduceLT, Int.reduceLE, Int.reduceEq, Int.reduceNe, Int.reduceBEq, Int.reduceBNe, Int.reduceToNat, Int.reduceGT, Int.reduceGE, ↓reduceIte, decide_true, decide_false, eq_self, Nat.mul_one, Nat.zero_mul, Nat.one_mul, Int.le_refl, Nat.le_refl, Int.cast_ofNat_Int, hlt, hat, hcm, hs, hs'.1, hs'.2]
        first | done | (refine hQ1 _ _ ?_; simp (decide := true) (maxSteps := 4000000) only [go_sem, Nat.reduceAdd, Nat.reduceSub, Nat.reduceMul, Nat.reduceDiv, Nat.reduceMod, Nat.reduceLT, Nat.reduceLeDiff, Nat.reduceEqDiff, Nat.reduceBEq, Nat.reduceBNe, Nat.reduceGT, Int.reduceAdd, Int.reduceSub, Int.reduceMul, Int.reduceNeg, Int.reduceLT, Int.reduceLE, Int.reduceEq, Int.reduceNe, Int.reduceBEq, Int.reduceBNe, Int.reduceToNat, Int.reduceGT, Int.reduceGE, ↓reduceIte, decide_true, decide_false, eq_self, Nat.mul_one, Nat.zero_mul, Nat.one_mul, Int.le_refl, Nat.le_refl, Int.cast_ofNat_Int, hs'.2])
      · have hs0 : (stop && k + 1 == M) = false := by simpa using hs
        simp (decide := true) (maxSteps := 4000000) only [go_sem, Nat.reduceAdd, Nat.reduceSub, Nat.reduceMul, Nat.reduceDiv, Nat.reduceMod, Nat.reduceLT, Nat.reduceLeDiff, Nat.reduceEqDiff, Nat.reduceBEq, Nat.reduceBNe, Nat.reduceGT, Int.reduceAdd, Int.reduceSub, Int.reduceMul, Int.reduceNeg, Int.reduceLT, Int.reduceLE, Int.reduceEq, Int.reduceNe, Int.reduceBEq, Int.reduceBNe, Int.reduceToNat, Int.reduceGT, Int.reduceGE, ↓reduceIte, decide_true, decide_false, eq_self, Nat.mul_one, Nat.zero_mul, Nat.one_mul, Int.le_refl, Nat.le_refl, Int.cast_ofNat_Int, hlt, hat, hcm, hs0]
        refine hI1 _ ⟨k + 1, by omega, fun h => ?_⟩ (by simp only; omega) ?_
        · subst h; simp at hs0; omega
        · simp (decide := true) (maxSteps := 4000000) only [go_sem, Nat.reduceAdd, Nat.reduceSub, Nat.reduceMul, Nat.reduceDiv, Nat.reduceMod, Nat.reduceLT, Nat.reduceLeDiff, Nat.reduceEqDiff, Nat.reduceBEq, Nat.reduceBNe, Nat.reduceGT, Int.reduceAdd, Int.reduceSub, Int.reduceMul, Int.reduceNeg, Int.reduceLT, Int.reduceLE, Int.reduceEq, Int.reduceNe, Int.reduceBEq, Int.reduceBNe, Int.reduceToNat, Int.reduceGT, Int.reduceGE, ↓reduceIte, decide_true, decide_false, eq_self, Nat.mul_one, Nat.zero_mul, Nat.one_mul, Int.le_refl, Nat.le_refl, Int.cast_ofNat_Int, hw]
    · have hkN : k = (hi - lo + 1).toNat := by omega
      simp (decide := true) (maxSteps := 4000000) only [go_sem, Nat.reduceAdd, Nat.reduceSub, Nat.reduceMul, Nat.reduceDiv, Nat.reduceMod, Nat.reduceLT, Nat.reduceLeDiff, Nat.reduceEqDiff, Nat.reduceBEq, Nat.reduceBNe, Nat.reduceGT, Int.reduceAdd, Int.reduceSub, Int.reduceMul, Int.reduceNeg, Int.reduceLT, Int.reduceLE, Int.reduceEq, Int.reduceNe, Int.reduceBEq, Int.reduceBNe, Int.reduceToNat, Int.reduceGT, Int.reduceGE, ↓reduceIte, decide_true, decide_false, eq_self, Nat.mul_one, Nat.zero_mul, Nat.one_mul, Int.le_refl, Nat.le_refl, Int.cast_ofNat_Int, hlt]
      refine hQ1 _ _ ?_
      have hM : k = M := by
        cases stop with
        | false => rw [hm2 rfl, hl]; exact hkN
        | true => have := hst rfl; omega
      simp (decide := true) (maxSteps := 4000000) only [go_sem, Nat.reduceAdd, Nat.reduceSub, Nat.reduceMul, Nat.reduceDiv, Nat.reduceMod, Nat.reduceLT, Nat.reduceLeDiff, Nat.reduceEqDiff, Nat.reduceBEq, Nat.reduceBNe, Nat.reduceGT, Int.reduceAdd, Int.reduceSub, Int.reduceMul, Int.reduceNeg, Int.reduceLT, Int.reduceLE, Int.reduceEq, Int.reduceNe, Int.reduceBEq, Int.reduceBNe, Int.reduceToNat, Int.reduceGT, Int.reduceGE, ↓reduceIte, decide_true, decide_false, eq_self, Nat.mul_one, Nat.zero_mul, Nat.one_mul, Int.le_refl, Nat.le_refl, Int.cast_ofNat_Int, hM]
theorem kEnds_c {l : List Int} (f : Bool) (a : Int) (hl : l.length ≤ 17592186044415) : PCalls Try.prog 64 [.int .i64 a, .sl (ints l) l.length f] (.tup [.int .i64 (minL a l), .int .i64 (maxL a l)]) := by
  refine pcalls_by Try.mixes noSpec_ok (fn := Try.f64) Try.func64 rfl (by kernel_rfl) (by show 2 ≤ _; decide) ?_
  simp (decide := true) (maxSteps := 4000000) only [go_sem, Nat.reduceAdd, Nat.reduceSub, Nat.reduceMul, Nat.reduceDiv, Nat.reduceMod, Nat.reduceLT, Nat.reduceLeDiff, Nat.reduceEqDiff, Nat.reduceBEq, Nat.reduceBNe, Nat.reduceGT, Int.reduceAdd, Int.reduceSub, Int.reduceMul, Int.reduceNeg, Int.reduceLT, Int.reduceLE, Int.reduceEq, Int.reduceNe, Int.reduceBEq, Int.reduceBNe, Int.reduceToNat, Int.reduceGT, Int.reduceGE, ↓reduceIte, decide_true, decide_false, eq_self, Nat.mul_one, Nat.zero_mul, Nat.one_mul, Int.le_refl, Nat.le_refl, Int.cast_ofNat_Int, Try.f64]
  refine pwpC_loopU (A := { k : Nat // k ≤ l.length }) [10, 11] (fun k => [(12, .t (.int .i64 k.1)), (4, .t (.int .i64 (minL a (l.take k.1)))), (5, .t (.int .i64 (maxL a (l.take k.1))))]) (fun _ => []) (fun k => l.length - k.1) ⟨0, by omega⟩ (by decide) (fun _ => by rfl) ?_ fun Q1 hQ1 ⟨k, hk⟩ I1 hI1 => ?_
  · simp (decide := true) (maxSteps := 4000000) only [go_sem, Nat.reduceAdd, Nat.reduceSub, Nat.reduceMul, Nat.reduceDiv, Nat.reduceMod, Nat.reduceLT, Nat.reduceLeDiff, Nat.reduceEqDiff, Nat.reduceBEq, Nat.reduceBNe, Nat.reduceGT, Int.reduceAdd, Int.reduceSub, Int.reduceMul, Int.reduceNeg, Int.reduceLT, Int.reduceLE, Int.reduceEq, Int.reduceNe, Int.reduceBEq, Int.reduceBNe, Int.reduceToNat, Int.reduceGT, Int.reduceGE, ↓reduceIte, decide_true, decide_false, eq_self, Nat.mul_one, Nat.zero_mul, Nat.one_mul, Int.le_refl, Nat.le_refl, Int.cast_ofNat_Int, minL, maxL, List.take_zero, List.foldl_nil]
  · by_cases hlt : (k : Int) < l.length
    · obtain ⟨x, hx⟩ := get_lt hlt
      have hd := ints_at hx
      rw [Nat.mul_one] at hd
      have hw : IntKind.i64.wrap ((k : Int) + 1) = ((k + 1 : Nat) : Int) := by rw [wrap_in (by omega) (by omega)]; omega
      have h1 : minL a (l.take (k + 1)) = min (minL a (l.take k)) x := by unfold minL; rw [take_snoc hx, List.foldl_append]; rfl
      have h2 : maxL a (l.take (k + 1)) = max (maxL a (l.take k)) x := by unfold maxL; rw [take_snoc hx, List.foldl_append]; rfl
      simp (decide := true) (maxSteps := 4000000) only [go_sem, Nat.reduceAdd, Nat.reduceSub, Nat.reduceMul, Nat.reduceDiv, Nat.reduceMod, Nat.reduceLT, Nat.reduceLeDiff, Nat.reduceEqDiff, Nat.reduceBEq, Nat.reduceBNe, Nat.reduceGT, Int.reduceAdd, Int.reduceSub, Int.reduceMul, Int.reduceNeg, Int.reduceLT, Int.reduceLE, Int.reduceEq, Int.reduceNe, Int.reduceBEq, Int.reduceBNe, Int.reduceToNat, Int.reduceGT, Int.reduceGE, ↓reduceIte, decide_true, decide_false, eq_self, Nat.mul_one, Nat.zero_mul, Nat.one_mul, Int.le_refl, Nat.le_refl, Int.cast_ofNat_Int, hlt, hd]
      refine hI1 _ ⟨k + 1, by omega⟩ (by simp only; omega) ?_
      simp (decide := true) (maxSteps := 4000000) only [go_sem, Nat.reduceAdd, Nat.reduceSub, Nat.reduceMul, Nat.reduceDiv, Nat.reduceMod, Nat.reduceLT, Nat.reduceLeDiff, Nat.reduceEqDiff, Nat.reduceBEq, Nat.reduceBNe, Nat.reduceGT, Int.reduceAdd, Int.reduceSub, Int.reduceMul, Int.reduceNeg, Int.reduceLT, Int.reduceLE, Int.reduceEq, Int.reduceNe, Int.reduceBEq, Int.reduceBNe, Int.reduceToNat, Int.reduceGT, Int.reduceGE, ↓reduceIte, decide_true, decide_false, eq_self, Nat.mul_one, Nat.zero_mul, Nat.one_mul, Int.le_refl, Nat.le_refl, Int.cast_ofNat_Int, hw, h1, h2]
    · have hkl : k = l.length := by omega
      subst hkl
      simp (decide := true) (maxSteps := 4000000) only [go_sem, Nat.reduceAdd, Nat.reduceSub, Nat.reduceMul, Nat.reduceDiv, Nat.reduceMod, Nat.reduceLT, Nat.reduceLeDiff, Nat.reduceEqDiff, Nat.reduceBEq, Nat.reduceBNe, Nat.reduceGT, Int.reduceAdd, Int.reduceSub, Int.reduceMul, Int.reduceNeg, Int.reduceLT, Int.reduceLE, Int.reduceEq, Int.reduceNe, Int.reduceBEq, Int.reduceBNe, Int.reduceToNat, Int.reduceGT, Int.reduceGE, ↓reduceIte, decide_true, decide_false, eq_self, Nat.mul_one, Nat.zero_mul, Nat.one_mul, Int.le_refl, Nat.le_refl, Int.cast_ofNat_Int, hlt]
      refine hQ1 _ _ ?_
      simp (decide := true) (maxSteps := 4000000) only [go_sem, Nat.reduceAdd, Nat.reduceSub, Nat.reduceMul, Nat.reduceDiv, Nat.reduceMod, Nat.reduceLT, Nat.reduceLeDiff, Nat.reduceEqDiff, Nat.reduceBEq, Nat.reduceBNe, Nat.reduceGT, Int.reduceAdd, Int.reduceSub, Int.reduceMul, Int.reduceNeg, Int.reduceLT, Int.reduceLE, Int.reduceEq, Int.reduceNe, Int.reduceBEq, Int.reduceBNe, Int.reduceToNat, Int.reduceGT, Int.reduceGE, ↓reduceIte, decide_true, decide_false, eq_self, Nat.mul_one, Nat.zero_mul, Nat.one_mul, Int.le_refl, Nat.le_refl, Int.cast_ofNat_Int, List.take_length]
noncomputable def ckEnds : List TV → Option TV
  | [.int .i64 a, .sl cs n f] => match unI cs with
    | some l => if n = l.length ∧ l.length ≤ 17592186044415 then some (.tup [.int .i64 (minL a l), .int .i64 (maxL a l)]) else none
    | none => none
  | _ => none
theorem ckEnds_ok : ∀ xs r, ckEnds xs = some r → PCalls Try.prog 64 xs r := by
  intro xs r h
  unfold ckEnds at h
  split at h
  · split at h
    · rename_i l hl
      split at h
      · rename_i hc; cases h
        obtain ⟨rfl, h1⟩ := hc
        have e := unI_some hl
        rw [ic_ints] at e
        subst e
        exact kEnds_c _ _ h1
      · cases h
    · cases h
  · cases h
attribute [go_sem] ckEnds
end Go.Proofs.Ytadkjjnnnkfalaa

/- Part Kf. -/
namespace Go.Ok
open Go Go.RowKit Go.Pm Go.Oc Go.Oh Go.Os
theorem rateP_mono {l : List Int} {t : Int} (h : Rat l t) {g g' : Nat → Int} (hg : ∀ k, k < l.length → g k ≤ g' k) : rateP l g t ≤ rateP l g' t := by
  unfold rateP
  by_cases hm : tempAt l (lowI l t) = t
  · rw [if_pos hm, if_pos hm]; exact hg _ h.at
  · rw [if_neg hm, if_neg hm]
    obtain ⟨i, x, y, e, hx, hy, b1, b2, b3, b4⟩ := h.between hm
    have hil := (List.getElem?_eq_some_iff.1 hx).1
    rw [e, show i + 1 - 1 = i by omega, tempAt_eq hx, tempAt_eq hy]
    refine Int.ediv_le_ediv (by omega) ?_
    have m1 := Int.mul_le_mul_of_nonneg_right (hg i (by omega)) (show 0 ≤ x - y - (t - y) by omega)
    have m2 := Int.mul_le_mul_of_nonneg_right (hg (i + 1) (by omega)) (show 0 ≤ t - y by omega)
    omega
theorem rateP_const {l : List Int} {t : Int} (h : Rat l t) (C : Int) : rateP l (fun _ => C) t = C := by
  unfold rateP
  by_cases hm : tempAt l (lowI l t) = t
  · rw [if_pos hm]
  · rw [if_neg hm]
    obtain ⟨i, x, y, e, hx, hy, b1, b2, b3, b4⟩ := h.between hm
    rw [e, show i + 1 - 1 = i by omega, tempAt_eq hx, tempAt_eq hy, ← Int.mul_add, show x - y - (t - y) + (t - y) = x - y by omega]
    exact Int.mul_ediv_cancel _ (by omega)
theorem rateP_b {l : List Int} {t : Int} (h : Rat l t) {g : Nat → Int} (hg : gOk l.length g = true) : -100000 ≤ rateP l g t ∧ rateP l g t ≤ 100000 := by
  have h1 := rateP_mono h (g := fun _ => -100000) (g' := g) (fun k hk => (gOk_at hg hk).1)
  have h2 := rateP_mono h (g := g) (g' := fun _ => 100000) (fun k hk => (gOk_at hg hk).2)
  rw [rateP_const h] at h1 h2
  exact ⟨h1, h2⟩
def degs (s : Span) : List Int := (List.range (s.hi - s.lo + 1).toNat).map fun k => s.lo + (k : Nat)
theorem degs_at (s : Span) {k : Nat} (h : k < (s.hi - s.lo + 1).toNat) : (degs s)[k]? = some (s.lo + k) := by
  unfold degs; rw [List.getElem?_map, range_get, if_pos h]; rfl
theorem degs_len (s : Span) : (degs s).length = (s.hi - s.lo + 1).toNat := by simp [degs]
theorem degs_mem {s : Span} {t : Int} : t ∈ degs s ↔ s.lo ≤ t ∧ t ≤ s.hi := by
  unfold degs
  rw [List.mem_map]
  constructor
  · rintro ⟨k, hk, rfl⟩; rw [List.mem_range] at hk; omega
  · intro h; exact ⟨(t - s.lo).toNat, List.mem_range.2 (by omega), by omega⟩
def gLo (c : Ck) : Nat → Int := fun k => (atS c.rates k).lo
def gHi (c : Ck) : Nat → Int := fun k => (atS c.rates k).hi
def lows (c : Ck) (s : Span) : List Int := (degs s).map (rateP c.temps (gLo c))
def highs (c : Ck) (s : Span) : List Int := (degs s).map (rateP c.temps (gHi c))
def dayLo (c : Ck) (s : Span) : Int := minL (tempAt (lows c s) 0) (lows c s)
def dayHi (c : Ck) (s : Span) : Int := maxL (tempAt (highs c s) 0) (highs c s)
def coneAt (c : Ck) (d : List Span) : Nat → Span
  | 0 => c.err
  | k + 1 => ⟨(coneAt c d k).lo + dayLo c (atS d k) + c.age.lo * (k : Nat), (coneAt c d k).hi + dayHi c (atS d k) + c.age.hi * (k : Nat)⟩
def coneTo (c : Ck) (d : List Span) (k : Nat) : List Span := (List.range k).map fun i => coneAt c d (i + 1)
theorem coneTo_succ (c : Ck) (d : List Span) (k : Nat) : coneTo c d (k + 1) = coneTo c d k ++ [coneAt c d (k + 1)] := by
  unfold coneTo; rw [List.range_succ, List.map_append]; rfl
theorem coneTo_len (c : Ck) (d : List Span) (k : Nat) : (coneTo c d k).length = k := by simp [coneTo]
theorem minL_le : ∀ (l : List Int) (a : Int), minL a l ≤ a ∧ ∀ x ∈ l, minL a l ≤ x
  | [], a => ⟨Int.le_refl _, fun x h => by simp at h⟩
  | y :: l, a => by
    have h := minL_le l (min a y)
    have e : minL a (y :: l) = minL (min a y) l := rfl
    rw [e]
    refine ⟨by have := h.1; omega, fun x hx => ?_⟩
    rcases List.mem_cons.1 hx with rfl | hx
    · have := h.1; omega
    · exact h.2 x hx
theorem minL_in : ∀ (l : List Int) (a : Int), minL a l = a ∨ minL a l ∈ l
  | [], a => .inl rfl
  | y :: l, a => by
    have e : minL a (y :: l) = minL (min a y) l := rfl
    rw [e]
    rcases minL_in l (min a y) with h | h
    · rw [h]
      by_cases hy : a ≤ y
      · left; omega
      · right; rw [show min a y = y by omega]; exact List.mem_cons_self
    · exact .inr (List.mem_cons_of_mem _ h)
theorem maxL_le : ∀ (l : List Int) (a : Int), a ≤ maxL a l ∧ ∀ x ∈ l, x ≤ maxL a l
  | [], a => ⟨Int.le_refl _, fun x h => by simp at h⟩
  | y :: l, a => by
    have h := maxL_le l (max a y)
    have e : maxL a (y :: l) = maxL (max a y) l := rfl
    rw [e]
    refine ⟨by have := h.1; omega, fun x hx => ?_⟩
    rcases List.mem_cons.1 hx with rfl | hx
    · have := h.1; omega
    · exact h.2 x hx
theorem maxL_in : ∀ (l : List Int) (a : Int), maxL a l = a ∨ maxL a l ∈ l
  | [], a => .inl rfl
  | y :: l, a => by
    have e : maxL a (y :: l) = maxL (max a y) l := rfl
    rw [e]
    rcases maxL_in l (max a y) with h | h
    · rw [h]
      by_cases hy : y ≤ a
      · left; omega
      · right; rw [show max a y = y by omega]; exact List.mem_cons_self
    · exact .inr (List.mem_cons_of_mem _ h)
structure GoodK (c : Ck) : Prop where
  inc : c.temps.Pairwise (· < ·)
  b : ∀ x ∈ c.temps, 0 ≤ x ∧ x ≤ 60
  n0 : 2 ≤ c.temps.length
  n1 : c.temps.length ≤ 8
  rl : c.rates.length = c.temps.length
  rb : ∀ k, k < c.temps.length → spannedB (atS c.rates k) (-100000) 100000 = true
  age : spannedB c.age (-1000) 1000 = true
  err : spannedB c.err (-10000000) 10000000 = true
theorem ckPre_at {c : Ck} : ∀ {n k : Nat}, ckPre c n = true → k < n → ckAt c k = true
  | 0, _, _, h => by omega
  | n + 1, k, hp, h => by
    unfold ckPre at hp
    rw [Bool.and_eq_true] at hp
    by_cases e : k = n
    · subst e; exact hp.2
    · exact ckPre_at hp.1 (by omega)
theorem ckOk_good {c : Ck} (h : ckOk c = true) : GoodK c := by
  have hb := ckBase_len (ckPre_base h)
  have hat : ∀ k, k < c.temps.length → befT c.temps k < tempAt c.temps k ∧ tempAt c.temps k ≤ 60 ∧ spannedB (atS c.rates k) (-100000) 100000 = true := fun k hk => by
    have := ckPre_at h hk
    unfold ckAt at this
    rw [Bool.and_eq_true] at this
    have h1 := inB_iff.1 this.1
    exact ⟨by omega, h1.2, this.2⟩
  have hmono : ∀ j i, i < j → j < c.temps.length → tempAt c.temps i < tempAt c.temps j := by
    intro j
    induction j with
    | zero => intro i h; omega
    | succ j ih =>
      intro i hi hj
      have h1 := (hat (j + 1) hj).1
      have e : befT c.temps (j + 1) = tempAt c.temps j := rfl
      rw [e] at h1
      rcases Nat.lt_or_ge i j with h' | h'
      · have := ih i h' (by omega); omega
      · have : i = j := by omega
        subst this; exact h1
  have h0 : ∀ k, k < c.temps.length → 0 ≤ tempAt c.temps k := fun k hk => by
    have h1 := (hat 0 (by omega)).1
    have e : befT c.temps 0 = -1 := rfl
    rw [e] at h1
    rcases Nat.eq_zero_or_pos k with rfl | h'
    · omega
    · have := hmono k 0 h' hk; omega
  refine ⟨List.pairwise_iff_getElem.2 fun i j hi hj hij => ?_, fun x hx => ?_, hb.2.1, hb.2.2.1, hb.1, fun k hk => (hat k hk).2.2, hb.2.2.2.1, hb.2.2.2.2⟩
  · have := hmono j i hij hj
    rwa [tempAt_eq (List.getElem?_eq_getElem hi), tempAt_eq (List.getElem?_eq_getElem hj)] at this
  · obtain ⟨k, hk, rfl⟩ := List.mem_iff_getElem.1 hx
    have h1 := h0 k hk
    have h2 := (hat k hk).2.1
    rw [tempAt_eq (List.getElem?_eq_getElem hk)] at h1 h2
    exact ⟨h1, h2⟩
theorem GoodK.rat {c : Ck} (h : GoodK c) {t : Int} (h1 : c.lo ≤ t) (h2 : t ≤ c.hi) : ratOk c.temps t = true := by
  unfold ratOk
  have := h.n0; have := h.n1
  simp only [Bool.and_eq_true, decide_eq_true_eq, List.all_eq_true]
  exact ⟨h.inc, fun x hx => inB_iff.2 (h.b x hx), by omega, by omega, inB_iff.2 ⟨h1, h2⟩⟩
theorem GoodK.gLo {c : Ck} (h : GoodK c) : gOk c.temps.length (gLo c) = true := by
  unfold gOk; rw [List.all_eq_true]; intro k hk
  have := spannedB_iff.1 (h.rb k (List.mem_range.1 hk))
  exact inB_iff.2 ⟨by unfold Ok.gLo; omega, by unfold Ok.gLo; omega⟩
theorem GoodK.gHi {c : Ck} (h : GoodK c) : gOk c.temps.length (gHi c) = true := by
  unfold gOk; rw [List.all_eq_true]; intro k hk
  have := spannedB_iff.1 (h.rb k (List.mem_range.1 hk))
  exact inB_iff.2 ⟨by unfold Ok.gHi; omega, by unfold Ok.gHi; omega⟩
theorem daysOk_iff {c : Ck} {d : List Span} (h : daysOk c d = true) : 1 ≤ d.length ∧ d.length ≤ 60 ∧ ∀ k, k < d.length → c.lo ≤ (atS d k).lo ∧ (atS d k).lo ≤ (atS d k).hi ∧ (atS d k).hi ≤ c.hi := by
  unfold daysOk daysPre at h
  rw [Bool.and_eq_true, List.take_length, List.all_eq_true] at h
  have h1 := inB_iff.1 h.1
  refine ⟨by omega, by omega, fun k hk => ?_⟩
  rw [atS_eq (List.getElem?_eq_getElem hk)]
  exact spannedB_iff.1 (h.2 _ (List.getElem_mem hk))
theorem dayLo_b {c : Ck} (h : GoodK c) {s : Span} (h1 : c.lo ≤ s.lo) (h2 : s.lo ≤ s.hi) (h3 : s.hi ≤ c.hi) : -100000 ≤ dayLo c s ∧ dayLo c s ≤ 100000 := by
  have hall : ∀ x ∈ lows c s, -100000 ≤ x ∧ x ≤ 100000 := fun x hx => by
    unfold lows at hx
    obtain ⟨t, ht, rfl⟩ := List.mem_map.1 hx
    have := degs_mem.1 ht
    exact rateP_b (ratOk_iff (h.rat (by omega) (by omega))) h.gLo
  have h0 : tempAt (lows c s) 0 ∈ lows c s := by
    have : 0 < (lows c s).length := by unfold lows; rw [List.length_map, degs_len]; omega
    rw [tempAt_eq (List.getElem?_eq_getElem this)]; exact List.getElem_mem this
  unfold dayLo
  rcases minL_in (lows c s) (tempAt (lows c s) 0) with e | e
  · rw [e]; exact hall _ h0
  · exact hall _ e
theorem dayHi_b {c : Ck} (h : GoodK c) {s : Span} (h1 : c.lo ≤ s.lo) (h2 : s.lo ≤ s.hi) (h3 : s.hi ≤ c.hi) : -100000 ≤ dayHi c s ∧ dayHi c s ≤ 100000 := by
  have hall : ∀ x ∈ highs c s, -100000 ≤ x ∧ x ≤ 100000 := fun x hx => by
    unfold highs at hx
    obtain ⟨t, ht, rfl⟩ := List.mem_map.1 hx
    have := degs_mem.1 ht
    exact rateP_b (ratOk_iff (h.rat (by omega) (by omega))) h.gHi
  have h0 : tempAt (highs c s) 0 ∈ highs c s := by
    have : 0 < (highs c s).length := by unfold highs; rw [List.length_map, degs_len]; omega
    rw [tempAt_eq (List.getElem?_eq_getElem this)]; exact List.getElem_mem this
  unfold dayHi
  rcases maxL_in (highs c s) (tempAt (highs c s) 0) with e | e
  · rw [e]; exact hall _ h0
  · exact hall _ e
theorem coneAt_b {c : Ck} {d : List Span} (h : GoodK c) (hd : daysOk c d = true) : ∀ k, k ≤ d.length → -10000000 - 160000 * (k : Nat) ≤ (coneAt c d k).lo ∧ (coneAt c d k).lo ≤ 10000000 + 160000 * (k : Nat) ∧ -10000000 - 160000 * (k : Nat) ≤ (coneAt c d k).hi ∧ (coneAt c d k).hi ≤ 10000000 + 160000 * (k : Nat)
  | 0, _ => by
    have := spannedB_iff.1 h.err
    show _ ≤ c.err.lo ∧ _ ∧ _ ≤ c.err.hi ∧ c.err.hi ≤ _
    have e : (coneAt c d 0).lo = c.err.lo := rfl
    rw [e]; omega
  | k + 1, hk => by
    have ih := coneAt_b h hd k (by omega)
    have hd' := daysOk_iff hd
    have hs := hd'.2.2 k (by omega)
    have b1 := dayLo_b h hs.1 hs.2.1 hs.2.2
    have b2 := dayHi_b h hs.1 hs.2.1 hs.2.2
    have ha := spannedB_iff.1 h.age
    have m1 : -1000 * (k : Nat) ≤ c.age.lo * (k : Nat) := Int.mul_le_mul_of_nonneg_right ha.1 (by omega)
    have m2 : c.age.lo * (k : Nat) ≤ 1000 * (k : Nat) := Int.mul_le_mul_of_nonneg_right (by omega) (by omega)
    have m3 : -1000 * (k : Nat) ≤ c.age.hi * (k : Nat) := Int.mul_le_mul_of_nonneg_right (by omega) (by omega)
    have m4 : c.age.hi * (k : Nat) ≤ 1000 * (k : Nat) := Int.mul_le_mul_of_nonneg_right (by omega) (by omega)
    have e1 : (coneAt c d (k + 1)).lo = (coneAt c d k).lo + dayLo c (atS d k) + c.age.lo * (k : Nat) := rfl
    have e2 : (coneAt c d (k + 1)).hi = (coneAt c d k).hi + dayHi c (atS d k) + c.age.hi * (k : Nat) := rfl
    rw [e1, e2]; omega
end Go.Ok

/- Part Kg. -/
namespace Go.Proofs.Ytadkjjnnnkfalaa
open Go.RowKit Go.Pm Go.Oc Go.Oh Go.Os Go.Ok
set_option maxRecDepth 100000
set_option linter.unusedVariables false
set_option maxHeartbeats 8000000

noncomputable def ckOpened : List TV → Option TV
  | [.agg [tT, tR, .int .i64 a0, .int .i64 a1, .int .i64 e0, .int .i64 e1], sD] => match rowL unI tT, rowL unS tR, rowL unS sD with
    | some l, some r, some d => if (l.length ≤ 17592186044415 ∧ r.length ≤ 17592186044415) ∧ d.length ≤ 17592186044415 then
        (if ckOk ⟨l, r, ⟨a0, a1⟩, ⟨e0, e1⟩⟩ = true then some (.tup [.agg [tT, tR, .int .i64 a0, .int .i64 a1, .int .i64 e0, .int .i64 e1], .int .i64 (if daysOk ⟨l, r, ⟨a0, a1⟩, ⟨e0, e1⟩⟩ d then 0 else 71)])
        else some (.tup [ckNil, .int .i64 70])) else none
    | _, _, _ => none
  | _ => none
theorem ckOpened_ok : ∀ xs r, ckOpened xs = some r → PCalls Try.prog 60 xs r := by
  intro xs r h
  unfold ckOpened at h
  split at h
  · split at h
    · rename_i l r' d hl hr hd
      have hl := rowL_some (un := unI) unI_nil (@unI_some) hl
      have hr := rowL_some (un := unS) unS_nil (@unS_some) hr
      have hd := rowL_some (un := unS) unS_nil (@unS_some) hd
      split at h
      · rename_i hc
        split at h
        · rename_i hok; cases h
          have hb := ckBase_len (ckPre_base hok)
          simp only at hb
          obtain ⟨fT, rfl⟩ := hl.ne (by omega)
          obtain ⟨fR, rfl⟩ := hr.ne (by omega)
          rw [ic_ints]
          exact kOpened_c ⟨l, r', ⟨_, _⟩, ⟨_, _⟩⟩ fT fR hd hc.2 hok
        · rename_i hok; cases h
          exact kOpenBad_c ⟨l, r', ⟨_, _⟩, ⟨_, _⟩⟩ (d := d) hl hr hc.1.1 hc.1.2 (by simpa using hok)
      · cases h
    · cases h
  · cases h
attribute [go_sem] ckOpened
noncomputable def spKg : Pm.Spec := (((((spKc.one 60 ckOpened).one 61 ckLow).one 62 ckHigh).one 146 ckRate).one 63 ckDegrees).one 64 ckEnds
@[go_sem] theorem spKg_p (f : FuncId) (xs : List TV) : spKg.p f xs = Pm.Spec.p ((((((spKc.one 60 ckOpened).one 61 ckLow).one 62 ckHigh).one 146 ckRate).one 63 ckDegrees).one 64 ckEnds) f xs := rfl
@[go_sem] theorem spKg_h (f : FuncId) (ps : List PV) (hl : List PO) : spKg.h f ps hl = Pm.Spec.h ((((((spKc.one 60 ckOpened).one 61 ckLow).one 62 ckHigh).one 146 ckRate).one 63 ckDegrees).one 64 ckEnds) f ps hl := rfl
@[go_sem] theorem spKg_y (Y : Pm.YS) (f : FuncId) (ps : List PV) (hl : List PO) : spKg.y Y f ps hl = Pm.Spec.y ((((((spKc.one 60 ckOpened).one 61 ckLow).one 62 ckHigh).one 146 ckRate).one 63 ckDegrees).one 64 ckEnds) Y f ps hl := rfl
@[go_sem] theorem spKg_fz (f : FuncId) : spKg.fz f = Pm.Spec.fz ((((((spKc.one 60 ckOpened).one 61 ckLow).one 62 ckHigh).one 146 ckRate).one 63 ckDegrees).one 64 ckEnds) f := rfl
@[go_sem] theorem spKg_fr (f : FuncId) : spKg.fr f = Pm.Spec.fr ((((((spKc.one 60 ckOpened).one 61 ckLow).one 62 ckHigh).one 146 ckRate).one 63 ckDegrees).one 64 ckEnds) f := rfl
@[go_sem] theorem spKg_yf (f : FuncId) : spKg.yf f = Pm.Spec.yf ((((((spKc.one 60 ckOpened).one 61 ckLow).one 62 ckHigh).one 146 ckRate).one 63 ckDegrees).one 64 ckEnds) f := rfl
@[go_sem] theorem spKg_mu (t : TypeId) : spKg.mu t = Pm.Spec.mu ((((((spKc.one 60 ckOpened).one 61 ckLow).one 62 ckHigh).one 146 ckRate).one 63 ckDegrees).one 64 ckEnds) t := rfl
@[go_sem] theorem spKg_nf (t : TypeId) : spKg.nf t = Pm.Spec.nf ((((((spKc.one 60 ckOpened).one 61 ckLow).one 62 ckHigh).one 146 ckRate).one 63 ckDegrees).one 64 ckEnds) t := rfl
theorem spKg_ok : SpecOk Try.prog spKg := Spec.one_ok ckEnds_ok (Spec.one_ok ckDegrees_ok (Spec.one_ok ckRate_ok (Spec.one_ok ckHigh_ok (Spec.one_ok ckLow_ok (Spec.one_ok ckOpened_ok spKc_ok)))))
theorem mthRate : methodO Try.prog 206 ((nameAt Try.f20 0).getD Try.f95.name) = some 146 := by kernel_rfl
theorem kConeBad_c (c : Ck) {tT tR sD : TV} {d : List Span} (hT : IsRow ic tT c.temps) (hR : IsRow Span.cs tR c.rates) (hD : IsRow Span.cs sD d) (h1 : c.temps.length ≤ 17592186044415) (h2 : c.rates.length ≤ 17592186044415) (h3 : d.length ≤ 17592186044415) (h : ckOk c = false ∨ daysOk c d = false) : PCalls Try.prog 20 [c.t tT tR, sD] (.tup [.nilSl, .int .i64 (if ckOk c then 71 else 70)]) := by
  obtain ⟨temps, rates, ⟨a0, a1⟩, ⟨e0, e1⟩⟩ := c
  simp only at *
  have rT : rowL unI tT = some temps := rowI_is hT
  have rR : rowL unS tR = some rates := rowS_is hR
  have rD : rowL unS sD = some d := rowS_is hD
  unfold rowL at rT rR rD
  simp only [unS_nil, unI_nil] at rT rR rD
  refine pcalls_by Try.mixes spKg_ok (fn := Try.f20) Try.func20 rfl (by kernel_rfl) (by show 2 ≤ _; decide) ?_
  cases hok : ckOk ⟨temps, rates, ⟨a0, a1⟩, ⟨e0, e1⟩⟩ with
  | false => simp (decide := true) (maxSteps := 4000000) only [go_sem, Nat.reduceAdd, Nat.reduceSub, Nat.reduceMul, Nat.reduceDiv, Nat.reduceMod, Nat.reduceLT, Nat.reduceLeDiff, Nat.reduceEqDiff, Nat.reduceBEq, Nat.reduceBNe, Nat.reduceGT, Int.reduceAdd, Int.reduceSub, Int.reduceMul, Int.reduceNeg, Int.reduceLT, Int.reduceLE, Int.reduceEq, Int.reduceNe, Int.reduceBEq, Int.reduceBNe, Int.reduceToNat, Int.reduceGT, Int.reduceGE, ↓reduceIte, decide_true, decide_false, eq_self, Nat.mul_one, Nat.zero_mul, Nat.one_mul, Int.le_refl, Nat.le_refl, Int.cast_ofNat_Int, Try.f20, Ck.t, Ck.cs, rT, rR, rD, h1, h2, h3, hok, ckNil]
  | true =>
    rw [hok] at h
    have hd : daysOk ⟨temps, rates, ⟨a0, a1⟩, ⟨e0, e1⟩⟩ d = false := by rcases h with h | h; cases h; exact h
    simp (decide := true) (maxSteps := 4000000) only [go_sem, Nat.reduceAdd, Nat.reduceSub, Nat.reduceMul, Nat.reduceDiv, Nat.reduceMod, Nat.reduceLT, Nat.reduceLeDiff, Nat.reduceEqDiff, Nat.reduceBEq, Nat.reduceBNe, Nat.reduceGT, Int.reduceAdd, Int.reduceSub, Int.reduceMul, Int.reduceNeg, Int.reduceLT, Int.reduceLE, Int.reduceEq, Int.reduceNe, Int.reduceBEq, Int.reduceBNe, Int.reduceToNat, Int.reduceGT, Int.reduceGE, ↓reduceIte, decide_true, decide_false, eq_self, Nat.mul_one, Nat.zero_mul, Nat.one_mul, Int.le_refl, Nat.le_refl, Int.cast_ofNat_Int, Try.f20, Ck.t, Ck.cs, rT, rR, rD, h1, h2, h3, hok, hd]
theorem kCone_c (c : Ck) {d : List Span} (fT fR fD : Bool) (hok : ckOk c = true) (hdo : daysOk c d = true) : PCalls Try.prog 20 [c.t (.sl (ints c.temps) c.temps.length fT) (.sl (c.rates.flatMap Span.cs) c.rates.length fR), .sl (d.flatMap Span.cs) d.length fD] (.tup [.sl ((coneTo c d d.length).flatMap Span.cs) d.length false, .int .i64 0]) := by
  have hG := ckOk_good hok
  have hcb := coneAt_b hG hdo
  have hd' := daysOk_iff hdo
  have hgl := hG.gLo
  have hgh := hG.gHi
  have hrl := hG.rl
  have hn1 := hG.n1
  have hag := spannedB_iff.1 hG.age
  have rT : unI (ints c.temps) = some c.temps := by rw [← ic_ints]; exact unI_ic _
  have rR : unS (c.rates.flatMap Span.cs) = some c.rates := unS_eq _
  have rD : unS (d.flatMap Span.cs) = some d := unS_eq _
  have h1 : c.temps.length ≤ 17592186044415 := by omega
  have h2 : c.rates.length ≤ 17592186044415 := by omega
  have h3 : d.length ≤ 17592186044415 := by omega
  have hm := mth_of (l := nameAt Try.f20 0) rfl mthRate
  obtain ⟨c', hc'⟩ : ∃ c', c = c' := ⟨_, rfl⟩
  obtain ⟨temps, rates, ⟨a0, a1⟩, ⟨e0, e1⟩⟩ := c
  simp only at *
  unfold gLo at hgl
  unfold gHi at hgh
  simp only at hgl hgh
  have hlen := coneTo_len c' d
  rw [hc'] at hok hdo hcb ⊢
  have hok' : ckOk ⟨temps, rates, ⟨a0, a1⟩, ⟨e0, e1⟩⟩ = true := by rw [hc']; exact hok
  have hdo' : daysOk ⟨temps, rates, ⟨a0, a1⟩, ⟨e0, e1⟩⟩ d = true := by rw [hc']; exact hdo
  have ht : ∀ X Y, c'.t X Y = .agg [X, Y, .int .i64 a0, .int .i64 a1, .int .i64 e0, .int .i64 e1] := fun X Y => by rw [← hc']; rfl
  rw [ht]
  refine pcalls_by Try.mixes spKg_ok (fn := Try.f20) Try.func20 rfl (by kernel_rfl) (by show 2 ≤ _; decide) ?_
  simp (decide := true) (maxSteps := 4000000) only [go_sem, Nat.reduceAdd, Nat.reduceSub, Nat.reduceMul, Nat.reduceDiv, Nat.reduceMod, Nat.reduceLT, Nat.reduceLeDiff, Nat.reduceEqDiff, Nat.reduceBEq, Nat.reduceBNe, Nat.reduceGT, Int.reduceAdd, Int.reduceSub, Int.reduceMul, Int.reduceNeg, Int.reduceLT, Int.reduceLE, Int.reduceEq, Int.reduceNe, Int.reduceBEq, Int.reduceBNe, Int.reduceToNat, Int.reduceGT, Int.reduceGE, ↓reduceIte, decide_true, decide_false, eq_self, Nat.mul_one, Nat.zero_mul, Nat.one_mul, Int.le_refl, Nat.le_refl, Int.cast_ofNat_Int, Try.f20, rT, rR, rD, h1, h2, h3, hok', hdo']
  refine pwpC_loopU (A := { k : Nat // k ≤ d.length }) [1, 4, 5, 6, 8, 9, 10, 36, 37] (fun k => [(38, .t (.int .i64 k.1)), (11, .own ((coneTo c' d k.1).flatMap Span.cs) k.1 5)]) (fun k => [(4, .box [.t (.int .i64 (coneAt c' d k.1).lo), .t (.int .i64 (coneAt c' d k.1).hi)]), (5, .tok k.1 29)]) (fun k => d.length - k.1) ⟨0, by omega⟩ (by decide) (fun _ => by rfl) ?_ fun Q1 hQ1 ⟨k, hk⟩ I1 hI1 => ?_
  · simp (decide := true) (maxSteps := 4000000) only [go_sem, Nat.reduceAdd, Nat.reduceSub, Nat.reduceMul, Nat.reduceDiv, Nat.reduceMod, Nat.reduceLT, Nat.reduceLeDiff, Nat.reduceEqDiff, Nat.reduceBEq, Nat.reduceBNe, Nat.reduceGT, Int.reduceAdd, Int.reduceSub, Int.reduceMul, Int.reduceNeg, Int.reduceLT, Int.reduceLE, Int.reduceEq, Int.reduceNe, Int.reduceBEq, Int.reduceBNe, Int.reduceToNat, Int.reduceGT, Int.reduceGE, ↓reduceIte, decide_true, decide_false, eq_self, Nat.mul_one, Nat.zero_mul, Nat.one_mul, Int.le_refl, Nat.le_refl, Int.cast_ofNat_Int, coneTo, List.range_zero, List.map_nil, List.flatMap_nil]
    first | done | (subst hc'; rfl) | (subst hc'; simp (decide := true) (maxSteps := 4000000) only [go_sem, Nat.reduceAdd, Nat.reduceSub, Nat.reduceMul, Nat.reduceDiv, Nat.reduceMod, Nat.reduceLT, Nat.reduceLeDiff, Nat.reduceEqDiff, Nat.reduceBEq, Nat.reduceBNe, Nat.reduceGT, Int.reduceAdd, Int.reduceSub, Int.reduceMul, Int.reduceNeg, Int.reduceLT, Int.reduceLE, Int.reduceEq, Int.reduceNe, Int.reduceBEq, Int.reduceBNe, Int.reduceToNat, Int.reduceGT, Int.reduceGE, ↓reduceIte, decide_true, decide_false, eq_self, Nat.mul_one, Nat.zero_mul, Nat.one_mul, Int.le_refl, Nat.le_refl, Int.cast_ofNat_Int, coneAt])
  · by_cases hlt : (k : Int) < d.length
    · obtain ⟨s, hs⟩ := get_lt hlt
      have hdk := flat_at Span.cs (n := 2) (fun _ => rfl) hs
      have has := atS_eq hs
      have hsb := hd'.2.2 k (by omega)
      rw [has] at hsb
      have hlow : c'.lo = tempAt temps 0 := by rw [← hc']; rfl
      simp (decide := true) (maxSteps := 4000000) only [go_sem, Nat.reduceAdd, Nat.reduceSub, Nat.reduceMul, Nat.reduceDiv, Nat.reduceMod, Nat.reduceLT, Nat.reduceLeDiff, Nat.reduceEqDiff, Nat.reduceBEq, Nat.reduceBNe, Nat.reduceGT, Int.reduceAdd, Int.reduceSub, Int.reduceMul, Int.reduceNeg, Int.reduceLT, Int.reduceLE, Int.reduceEq, Int.reduceNe, Int.reduceBEq, Int.reduceBNe, Int.reduceToNat, Int.reduceGT, Int.reduceGE, ↓reduceIte, decide_true, decide_false, eq_self, Nat.mul_one, Nat.zero_mul, Nat.one_mul, Int.le_refl, Nat.le_refl, Int.cast_ofNat_Int, hlt, hdk, Span.cs]
      have hcl : c'.lo = tempAt temps 0 := by rw [← hc']; rfl
      have hsl : ∀ c'' : Ck, c'' = c' → c''.lo ≤ s.lo → s.hi ≤ c''.hi → True := fun _ _ _ _ => trivial
      have hrat : ∀ t, s.lo ≤ t → t ≤ s.hi → ratOk temps t = true := fun t h1 h2 => hG.rat (by omega) (by omega)
      have hlows : lows c' s = (degs s).map (rateP temps (fun k => (atS rates k).lo)) := by rw [← hc']; rfl
      have hhighs : highs c' s = (degs s).map (rateP temps (fun k => (atS rates k).hi)) := by rw [← hc']; rfl
      have hll : (lows c' s).length = (degV s).length := by rw [hlows, List.length_map, degs_len, degV_len]
      have hhl : (highs c' s).length = (degV s).length := by rw [hhighs, List.length_map, degs_len, degV_len]
      have hdl := degV_len s
      have ht60 : -1000 ≤ s.lo ∧ s.hi ≤ 1000 := by
        have r1 := ratOk_iff (hrat s.lo (Int.le_refl _) hsb.2.1)
        have b1 := hG.b (tempAt temps 0) (by
          rw [tempAt_eq (List.getElem?_eq_getElem (show 0 < temps.length by have := r1.n0; omega))]; exact List.getElem_mem _)
        have b2 := hG.b (tempAt temps (temps.length - 1)) (by
          rw [tempAt_eq (List.getElem?_eq_getElem (show temps.length - 1 < temps.length by have := r1.n0; omega))]; exact List.getElem_mem _)
        have c1 := r1.lo
        have c2 : s.hi ≤ tempAt temps (temps.length - 1) := hsb.2.2
        try simp only at b1 b2
        omega
      refine pwpC_range rfl 100 [] [.cptr [.int .i64 s.lo, .int .i64 s.hi]] (degV s)
        [(45, .t (.fn 100 [] [.cptr [.int .i64 s.lo, .int .i64 s.hi]])), (13, .ptr 6 0), (14, .ptr 7 0), (12, .t (.int .i64 k)), (38, .t (.int .i64 k)), (11, .own ((coneTo c' d k).flatMap Span.cs) k 5), (1, .t (.sl (d.flatMap Span.cs) d.length fD)), (4, .t .nilSl), (5, .t (.int .i64 0)), (6, .ptr 1 0), (8, .ptr 2 0), (9, .ptr 3 0), (10, .ptr 4 0), (36, .t (.sl (d.flatMap Span.cs) d.length fD)), (37, .t (.int .i64 d.length))]
        (fun i => [.box [.t (.sl (ints temps) temps.length fT), .t (.sl (rates.flatMap Span.cs) rates.length fR), .t (.int .i64 a0), .t (.int .i64 a1), .t (.int .i64 e0), .t (.int .i64 e1)], .box [.t (.sl (ints temps) temps.length fT), .t (.sl (rates.flatMap Span.cs) rates.length fR), .t (.int .i64 a0), .t (.int .i64 a1), .t (.int .i64 e0), .t (.int .i64 e1)],
          .box [.t (.ifc 206 (.agg [.sl (ints temps) temps.length fT, .fn 98 [] [.cptr [.sl (ints temps) temps.length fT, .sl (rates.flatMap Span.cs) rates.length fR, .int .i64 a0, .int .i64 a1, .int .i64 e0, .int .i64 e1]]]))],
          .box [.t (.ifc 206 (.agg [.sl (ints temps) temps.length fT, .fn 99 [] [.cptr [.sl (ints temps) temps.length fT, .sl (rates.flatMap Span.cs) rates.length fR, .int .i64 a0, .int .i64 a1, .int .i64 e0, .int .i64 e1]]]))],
          .box [.t (.int .i64 (coneAt c' d k).lo), .t (.int .i64 (coneAt c' d k).hi)], .tok k 29,
          .box [.own (ints ((lows c' s).take i)) ((lows c' s).take i).length 8], .box [.own (ints ((highs c' s).take i)) ((highs c' s).take i).length 9], .tok ((lows c' s).take i).length 3, .tok ((highs c' s).take i).length 3]) 10 ?_ (by rfl) (by rfl) ?_ (kDegI_c s ht60) ?_ (fun i => by simp) (fun i => rfl) (fun i x hx => ?_) ?_
      · simp (decide := true) (maxSteps := 4000000) only [go_sem, Nat.reduceAdd, Nat.reduceSub, Nat.reduceMul, Nat.reduceDiv, Nat.reduceMod, Nat.reduceLT, Nat.reduceLeDiff, Nat.reduceEqDiff, Nat.reduceBEq, Nat.reduceBNe, Nat.reduceGT, Int.reduceAdd, Int.reduceSub, Int.reduceMul, Int.reduceNeg, Int.reduceLT, Int.reduceLE, Int.reduceEq, Int.reduceNe, Int.reduceBEq, Int.reduceBNe, Int.reduceToNat, Int.reduceGT, Int.reduceGE, ↓reduceIte, decide_true, decide_false, eq_self, Nat.mul_one, Nat.zero_mul, Nat.one_mul, Int.le_refl, Nat.le_refl, Int.cast_ofNat_Int, List.take_zero, ints, List.map_nil, List.length_nil]
      · first | rfl | simp (decide := true) (maxSteps := 4000000) only [go_sem, Nat.reduceAdd, Nat.reduceSub, Nat.reduceMul, Nat.reduceDiv, Nat.reduceMod, Nat.reduceLT, Nat.reduceLeDiff, Nat.reduceEqDiff, Nat.reduceBEq, Nat.reduceBNe, Nat.reduceGT, Int.reduceAdd, Int.reduceSub, Int.reduceMul, Int.reduceNeg, Int.reduceLT, Int.reduceLE, Int.reduceEq, Int.reduceNe, Int.reduceBEq, Int.reduceBNe, Int.reduceToNat, Int.reduceGT, Int.reduceGE, ↓reduceIte, decide_true, decide_false, eq_self, Nat.mul_one, Nat.zero_mul, Nat.one_mul, Int.le_refl, Nat.le_refl, Int.cast_ofNat_Int]
      · intro x hx
        unfold degV at hx
        obtain ⟨y, _, rfl⟩ := List.mem_map.1 hx
        rfl
      · have hi := (List.getElem?_eq_some_iff.1 hx).1
        rw [hdl] at hi
        rw [degV_at s hi] at hx
        cases hx
        have hr := hrat (s.lo + (i : Int)) (by omega) (by omega)
        have hxl : (lows c' s)[i]? = some (rateP temps (fun k => (atS rates k).lo) (s.lo + (i : Int))) := by rw [hlows, List.getElem?_map, degs_at s hi]; rfl
        have hxh : (highs c' s)[i]? = some (rateP temps (fun k => (atS rates k).hi) (s.lo + (i : Int))) := by rw [hhighs, List.getElem?_map, degs_at s hi]; rfl
        have tl := take_snoc hxl
        have th := take_snoc hxh
        have ll : ((lows c' s).take i).length = i := by rw [List.length_take, hll, hdl]; omega
        have lh : ((highs c' s).take i).length = i := by rw [List.length_take, hhl, hdl]; omega
        have ia : ∀ (l : List Int) (x : Int), ints (l ++ [x]) = ints l ++ [.int .i64 x] := fun l x => by unfold ints; rw [List.map_append]; rfl
        have kl : (ints ((lows c' s).take i)).length = i := by unfold ints; rw [List.length_map, ll]
        have kh : (ints ((highs c' s).take i)).length = i := by unfold ints; rw [List.length_map, lh]
        have k8 : (i + 1) * 8 ≤ 140737488355328 := by omega
        simp (decide := true) (maxSteps := 4000000) only [go_sem, Nat.reduceAdd, Nat.reduceSub, Nat.reduceMul, Nat.reduceDiv, Nat.reduceMod, Nat.reduceLT, Nat.reduceLeDiff, Nat.reduceEqDiff, Nat.reduceBEq, Nat.reduceBNe, Nat.reduceGT, Int.reduceAdd, Int.reduceSub, Int.reduceMul, Int.reduceNeg, Int.reduceLT, Int.reduceLE, Int.reduceEq, Int.reduceNe, Int.reduceBEq, Int.reduceBNe, Int.reduceToNat, Int.reduceGT, Int.reduceGE, ↓reduceIte, decide_true, decide_false, eq_self, Nat.mul_one, Nat.zero_mul, Nat.one_mul, Int.le_refl, Nat.le_refl, Int.cast_ofNat_Int, hm, rT, rR, hr, hrl, hgl, hgh, ll, lh, kl, kh, k8, tl, th, ia, List.length_append, List.length_cons, List.length_nil]
      · have tl : (lows c' s).take (degV s).length = lows c' s := List.take_of_length_le (by omega)
        have th : (highs c' s).take (degV s).length = highs c' s := List.take_of_length_le (by omega)
        have g0 : 0 < (lows c' s).length := by omega
        have g1 : 0 < (highs c' s).length := by omega
        have x0 : (ints (lows c' s))[0]? = some (.int .i64 (tempAt (lows c' s) 0)) := by rw [tempAt_eq (List.getElem?_eq_getElem g0)]; exact ints_get (List.getElem?_eq_getElem g0)
        have y0 : (ints (highs c' s))[0]? = some (.int .i64 (tempAt (highs c' s) 0)) := by rw [tempAt_eq (List.getElem?_eq_getElem g1)]; exact ints_get (List.getElem?_eq_getElem g1)
        have i0 : (0 : Int) < (lows c' s).length := by omega
        have i1 : (0 : Int) < (highs c' s).length := by omega
        have n0 : ¬ (lows c' s).length = 0 := by omega
        have n1 : ¬ (highs c' s).length = 0 := by omega
        have m0 : (lows c' s).length ≤ 17592186044415 := by omega
        have m1 : (highs c' s).length ≤ 17592186044415 := by omega
        have uI : ∀ l : List Int, unI (ints l) = some l := fun l => by rw [← ic_ints]; exact unI_ic _
        have hcA := hcb k (by omega)
        have hcB := hcb (k + 1) (by omega)
        have eA : (coneAt c' d (k + 1)).lo = (coneAt c' d k).lo + minL (tempAt (lows c' s) 0) (lows c' s) + a0 * (k : Nat) := by
          have : (coneAt c' d (k + 1)).lo = (coneAt c' d k).lo + dayLo c' (atS d k) + c'.age.lo * (k : Nat) := rfl
          rw [this, has, ← hc']; rfl
        have eB : (coneAt c' d (k + 1)).hi = (coneAt c' d k).hi + maxL (tempAt (highs c' s) 0) (highs c' s) + a1 * (k : Nat) := by
          have : (coneAt c' d (k + 1)).hi = (coneAt c' d k).hi + dayHi c' (atS d k) + c'.age.hi * (k : Nat) := rfl
          rw [this, has, ← hc']; rfl
        have p1 : -1000 * (k : Int) ≤ a0 * (k : Int) := Int.mul_le_mul_of_nonneg_right (by omega) (by omega)
        have p2 : a0 * (k : Int) ≤ 1000 * (k : Int) := Int.mul_le_mul_of_nonneg_right (by omega) (by omega)
        have p3 : -1000 * (k : Int) ≤ a1 * (k : Int) := Int.mul_le_mul_of_nonneg_right (by omega) (by omega)
        have p4 : a1 * (k : Int) ≤ 1000 * (k : Int) := Int.mul_le_mul_of_nonneg_right (by omega) (by omega)
        have w1 : IntKind.i64.wrap (a0 * (k : Int)) = a0 * k := wrap_in (by omega) (by omega)
        have w2 : IntKind.i64.wrap (a1 * (k : Int)) = a1 * k := wrap_in (by omega) (by omega)
        have w3 : IntKind.i64.wrap ((coneAt c' d k).lo + minL (tempAt (lows c' s) 0) (lows c' s)) = (coneAt c' d k).lo + minL (tempAt (lows c' s) 0) (lows c' s) := wrap_in (by omega) (by omega)
        have w4 : IntKind.i64.wrap ((coneAt c' d k).hi + maxL (tempAt (highs c' s) 0) (highs c' s)) = (coneAt c' d k).hi + maxL (tempAt (highs c' s) 0) (highs c' s) := wrap_in (by omega) (by omega)
        have w5 : IntKind.i64.wrap ((coneAt c' d k).lo + minL (tempAt (lows c' s) 0) (lows c' s) + a0 * (k : Int)) = (coneAt c' d (k + 1)).lo := by rw [eA]; exact wrap_in (by omega) (by omega)
        have w6 : IntKind.i64.wrap ((coneAt c' d k).hi + maxL (tempAt (highs c' s) 0) (highs c' s) + a1 * (k : Int)) = (coneAt c' d (k + 1)).hi := by rw [eB]; exact wrap_in (by omega) (by omega)
        have w7 : IntKind.i64.wrap ((k : Int) + 1) = ((k + 1 : Nat) : Int) := by rw [wrap_in (by omega) (by omega)]; omega
        have cs := coneTo_succ c' d k
        have fl : ((coneTo c' d k).flatMap Span.cs).length = k * 2 := by
          have : ∀ l : List Span, (l.flatMap Span.cs).length = l.length * 2 := fun l => by
            induction l with
            | nil => rfl
            | cons x l ih => rw [List.flatMap_cons, List.length_append, ih, List.length_cons]; show 2 + _ = _; omega
          rw [this, hlen]
        have k16 : (k + 1) * 16 ≤ 140737488355328 := by omega
        simp (decide := true) (maxSteps := 4000000) only [go_sem, Nat.reduceAdd, Nat.reduceSub, Nat.reduceMul, Nat.reduceDiv, Nat.reduceMod, Nat.reduceLT, Nat.reduceLeDiff, Nat.reduceEqDiff, Nat.reduceBEq, Nat.reduceBNe, Nat.reduceGT, Int.reduceAdd, Int.reduceSub, Int.reduceMul, Int.reduceNeg, Int.reduceLT, Int.reduceLE, Int.reduceEq, Int.reduceNe, Int.reduceBEq, Int.reduceBNe, Int.reduceToNat, Int.reduceGT, Int.reduceGE, ↓reduceIte, decide_true, decide_false, eq_self, Nat.mul_one, Nat.zero_mul, Nat.one_mul, Int.le_refl, Nat.le_refl, Int.cast_ofNat_Int, tl, th, x0, y0, i0, i1, n0, n1, m0, m1, uI, w1, w2, w3, w4, w5, w6, fl, k16]
        refine hI1 _ ⟨k + 1, by omega⟩ (by simp only; omega) ?_
        simp (decide := true) (maxSteps := 4000000) only [go_sem, Nat.reduceAdd, Nat.reduceSub, Nat.reduceMul, Nat.reduceDiv, Nat.reduceMod, Nat.reduceLT, Nat.reduceLeDiff, Nat.reduceEqDiff, Nat.reduceBEq, Nat.reduceBNe, Nat.reduceGT, Int.reduceAdd, Int.reduceSub, Int.reduceMul, Int.reduceNeg, Int.reduceLT, Int.reduceLE, Int.reduceEq, Int.reduceNe, Int.reduceBEq, Int.reduceBNe, Int.reduceToNat, Int.reduceGT, Int.reduceGE, ↓reduceIte, decide_true, decide_false, eq_self, Nat.mul_one, Nat.zero_mul, Nat.one_mul, Int.le_refl, Nat.le_refl, Int.cast_ofNat_Int, w7, cs, List.flatMap_append, List.flatMap_cons, List.flatMap_nil, Span.cs, List.append_nil]
    · have hkl : k = d.length := by omega
      subst hkl
      simp (decide := true) (maxSteps := 4000000) only [go_sem, Nat.reduceAdd, Nat.reduceSub, Nat.reduceMul, Nat.reduceDiv, Nat.reduceMod, Nat.reduceLT, Nat.reduceLeDiff, Nat.reduceEqDiff, Nat.reduceBEq, Nat.reduceBNe, Nat.reduceGT, Int.reduceAdd, Int.reduceSub, Int.reduceMul, Int.reduceNeg, Int.reduceLT, Int.reduceLE, Int.reduceEq, Int.reduceNe, Int.reduceBEq, Int.reduceBNe, Int.reduceToNat, Int.reduceGT, Int.reduceGE, ↓reduceIte, decide_true, decide_false, eq_self, Nat.mul_one, Nat.zero_mul, Nat.one_mul, Int.le_refl, Nat.le_refl, Int.cast_ofNat_Int, hlt]
      refine hQ1 _ _ ?_
      have hne : ¬ d.length = 0 := by omega
      simp (decide := true) (maxSteps := 4000000) only [go_sem, Nat.reduceAdd, Nat.reduceSub, Nat.reduceMul, Nat.reduceDiv, Nat.reduceMod, Nat.reduceLT, Nat.reduceLeDiff, Nat.reduceEqDiff, Nat.reduceBEq, Nat.reduceBNe, Nat.reduceGT, Int.reduceAdd, Int.reduceSub, Int.reduceMul, Int.reduceNeg, Int.reduceLT, Int.reduceLE, Int.reduceEq, Int.reduceNe, Int.reduceBEq, Int.reduceBNe, Int.reduceToNat, Int.reduceGT, Int.reduceGE, ↓reduceIte, decide_true, decide_false, eq_self, Nat.mul_one, Nat.zero_mul, Nat.one_mul, Int.le_refl, Nat.le_refl, Int.cast_ofNat_Int, hne]
end Go.Proofs.Ytadkjjnnnkfalaa

/- Part Kh. -/
namespace Go.Ok
open Go Go.RowKit Go.Pm Go.Oc Go.Oh Go.Os
/-- A truth. -/
structure Tru where
  rs : List Int
  age : Int
  err : Int
  ts : List Int
def Tru.g (t : Tru) : Nat → Int := fun k => tempAt t.rs k
structure GoodT (c : Ck) (d : List Span) (t : Tru) : Prop where
  rl : t.rs.length = c.temps.length
  tl : t.ts.length = d.length
  age : c.age.lo ≤ t.age ∧ t.age ≤ c.age.hi
  err : c.err.lo ≤ t.err ∧ t.err ≤ c.err.hi
  rs : ∀ k, k < c.temps.length → (atS c.rates k).lo ≤ tempAt t.rs k ∧ tempAt t.rs k ≤ (atS c.rates k).hi
  ts : ∀ k, k < d.length → (atS d k).lo ≤ tempAt t.ts k ∧ tempAt t.ts k ≤ (atS d k).hi
def errAt (c : Ck) (t : Tru) : Nat → Int
  | 0 => t.err
  | k + 1 => errAt c t k + (rateP c.temps t.g (tempAt t.ts k) + t.age * (k : Nat))
def errTo (c : Ck) (t : Tru) (k : Nat) : List Int := (List.range k).map fun i => errAt c t (i + 1)
theorem errTo_succ (c : Ck) (t : Tru) (k : Nat) : errTo c t (k + 1) = errTo c t k ++ [errAt c t (k + 1)] := by
  unfold errTo; rw [List.range_succ, List.map_append]; rfl
theorem errTo_len (c : Ck) (t : Tru) (k : Nat) : (errTo c t k).length = k := by simp [errTo]
theorem GoodT.g {c : Ck} {d : List Span} {t : Tru} (hT : GoodT c d t) (h : GoodK c) : gOk c.temps.length t.g = true := by
  unfold gOk; rw [List.all_eq_true]; intro k hk
  have hk := List.mem_range.1 hk
  have h1 := spannedB_iff.1 (h.rb k hk)
  have h2 := hT.rs k hk
  exact inB_iff.2 ⟨by unfold Tru.g; omega, by unfold Tru.g; omega⟩
theorem errAt_b {c : Ck} {d : List Span} {t : Tru} (h : GoodK c) (hd : daysOk c d = true) (hT : GoodT c d t) : ∀ k, k ≤ d.length → -10000000 - 160000 * (k : Nat) ≤ errAt c t k ∧ errAt c t k ≤ 10000000 + 160000 * (k : Nat)
  | 0, _ => by
    have h1 := spannedB_iff.1 h.err
    have h2 := hT.err
    have e : errAt c t 0 = t.err := rfl
    rw [e]; omega
  | k + 1, hk => by
    have ih := errAt_b h hd hT k (by omega)
    have hd' := daysOk_iff hd
    have hs := hd'.2.2 k (by omega)
    have ht := hT.ts k (by omega)
    have b1 := rateP_b (ratOk_iff (h.rat (t := tempAt t.ts k) (by omega) (by omega))) (hT.g h)
    have ha := spannedB_iff.1 h.age
    have hta := hT.age
    have m1 : -1000 * (k : Nat) ≤ t.age * (k : Nat) := Int.mul_le_mul_of_nonneg_right (by omega) (by omega)
    have m2 : t.age * (k : Nat) ≤ 1000 * (k : Nat) := Int.mul_le_mul_of_nonneg_right (by omega) (by omega)
    have e1 : errAt c t (k + 1) = errAt c t k + (rateP c.temps t.g (tempAt t.ts k) + t.age * (k : Nat)) := rfl
    rw [e1]; omega
end Go.Ok
namespace Go.Proofs.Ytadkjjnnnkfalaa
open Go.RowKit Go.Pm Go.Oc Go.Oh Go.Os Go.Ok
set_option maxRecDepth 100000
set_option linter.unusedVariables false
set_option maxHeartbeats 8000000

noncomputable def spKh : Pm.Spec := { spKg with fz := fun _ => true }
@[go_sem] theorem spKh_p (f : FuncId) (xs : List TV) : spKh.p f xs = Pm.Spec.p ({ spKg with fz := fun _ => true }) f xs := rfl
@[go_sem] theorem spKh_h (f : FuncId) (ps : List PV) (hl : List PO) : spKh.h f ps hl = Pm.Spec.h ({ spKg with fz := fun _ => true }) f ps hl := rfl
@[go_sem] theorem spKh_y (Y : Pm.YS) (f : FuncId) (ps : List PV) (hl : List PO) : spKh.y Y f ps hl = Pm.Spec.y ({ spKg with fz := fun _ => true }) Y f ps hl := rfl
@[go_sem] theorem spKh_fz (f : FuncId) : spKh.fz f = Pm.Spec.fz ({ spKg with fz := fun _ => true }) f := rfl
@[go_sem] theorem spKh_fr (f : FuncId) : spKh.fr f = Pm.Spec.fr ({ spKg with fz := fun _ => true }) f := rfl
@[go_sem] theorem spKh_yf (f : FuncId) : spKh.yf f = Pm.Spec.yf ({ spKg with fz := fun _ => true }) f := rfl
@[go_sem] theorem spKh_mu (t : TypeId) : spKh.mu t = Pm.Spec.mu ({ spKg with fz := fun _ => true }) t := rfl
@[go_sem] theorem spKh_nf (t : TypeId) : spKh.nf t = Pm.Spec.nf ({ spKg with fz := fun _ => true }) t := rfl
theorem spKh_ok : SpecOk Try.prog spKh := spKg_ok
theorem mthRate2 : methodO Try.prog 206 ((nameAt Try.f66 0).getD Try.f95.name) = some 146 := by kernel_rfl
theorem kErrors_c (c : Ck) {d : List Span} (t : Tru) (fT fR fD f1 f2 : Bool) (hok : ckOk c = true) (hdo : daysOk c d = true) (hT : GoodT c d t) : PCalls Try.prog 66 [c.t (.sl (ints c.temps) c.temps.length fT) (.sl (c.rates.flatMap Span.cs) c.rates.length fR), .sl (d.flatMap Span.cs) d.length fD, .agg [.sl (ints t.rs) t.rs.length f1, .int .i64 t.age, .int .i64 t.err, .sl (ints t.ts) t.ts.length f2]] (.tup [.sl (ints (errTo c t d.length)) d.length true, .int .i64 0]) := by
  have hG := ckOk_good hok
  have heb := errAt_b hG hdo hT
  have hg := hT.g hG
  have hd' := daysOk_iff hdo
  have hrl := hG.rl
  have hn1 := hG.n1
  have hrat : ∀ x k, k < d.length → (atS d k).lo ≤ x → x ≤ (atS d k).hi → ratOk c.temps x = true := fun x k hk h1 h2 => hG.rat (by have := hd'.2.2 k hk; omega) (by have := hd'.2.2 k hk; omega)
  have hag := spannedB_iff.1 hG.age
  have rT : ∀ l : List Int, unI (ints l) = some l := fun l => by rw [← ic_ints]; exact unI_ic _
  have rR : ∀ l : List Span, unS (l.flatMap Span.cs) = some l := unS_eq
  have h1 : c.temps.length ≤ 17592186044415 := by omega
  have h3 : d.length ≤ 17592186044415 := by omega
  have hm := mth_of (l := nameAt Try.f66 0) rfl mthRate2
  have el : ∀ k, errAt c t (k + 1) = errAt c t k + (rateP c.temps t.g (tempAt t.ts k) + t.age * (k : Nat)) := fun k => rfl
  have es := errTo_succ c t
  have eln := errTo_len c t
  have e00 : errAt c t 0 = t.err := rfl
  have e01 : errTo c t 0 = [] := rfl
  obtain ⟨hT1, hT2, hT3, hT4, hT5, hT6⟩ := hT
  generalize errAt c t = EA at *
  generalize errTo c t = ET at *
  obtain ⟨temps, rates, ⟨a0, a1⟩, ⟨e0, e1⟩⟩ := c
  obtain ⟨rs, age, err, ts⟩ := t
  simp only [Tru.g] at *
  have hgg : Tru.g ⟨rs, age, err, ts⟩ = tempAt rs := rfl
  try simp only [hgg] at hg el
  have q1 : inB age a0 a1 = true := inB_iff.2 hT3
  have q2 : inB err e0 e1 = true := inB_iff.2 hT4
  refine pcalls_by Try.mixes spKh_ok (fn := Try.f66) Try.func66 rfl (by kernel_rfl) (by show 3 ≤ _; decide) ?_
  simp (decide := true) (maxSteps := 4000000) only [go_sem, Nat.reduceAdd, Nat.reduceSub, Nat.reduceMul, Nat.reduceDiv, Nat.reduceMod, Nat.reduceLT, Nat.reduceLeDiff, Nat.reduceEqDiff, Nat.reduceBEq, Nat.reduceBNe, Nat.reduceGT, Int.reduceAdd, Int.reduceSub, Int.reduceMul, Int.reduceNeg, Int.reduceLT, Int.reduceLE, Int.reduceEq, Int.reduceNe, Int.reduceBEq, Int.reduceBNe, Int.reduceToNat, Int.reduceGT, Int.reduceGE, ↓reduceIte, decide_true, decide_false, eq_self, Nat.mul_one, Nat.zero_mul, Nat.one_mul, Int.le_refl, Nat.le_refl, Int.cast_ofNat_Int, Try.f66, Ck.t, Ck.cs, rT, rR, hrl, h1, h3, hok, hdo, hT1, hT2, q1, q2, beq_self_eq_true]
  refine pwpC_loopU (A := { k : Nat // k ≤ temps.length }) [1, 5, 6, 7, 8, 10, 75] (fun k => [(76, .t (.int .i64 k.1))]) (fun _ => []) (fun k => temps.length - k.1) ⟨0, by omega⟩ (by decide) (fun _ => by rfl) ?_ fun Q1 hQ1 ⟨k, hk⟩ I1 hI1 => ?_
  · simp (decide := true) (maxSteps := 4000000) only [go_sem, Nat.reduceAdd, Nat.reduceSub, Nat.reduceMul, Nat.reduceDiv, Nat.reduceMod, Nat.reduceLT, Nat.reduceLeDiff, Nat.reduceEqDiff, Nat.reduceBEq, Nat.reduceBNe, Nat.reduceGT, Int.reduceAdd, Int.reduceSub, Int.reduceMul, Int.reduceNeg, Int.reduceLT, Int.reduceLE, Int.reduceEq, Int.reduceNe, Int.reduceBEq, Int.reduceBNe, Int.reduceToNat, Int.reduceGT, Int.reduceGE, ↓reduceIte, decide_true, decide_false, eq_self, Nat.mul_one, Nat.zero_mul, Nat.one_mul, Int.le_refl, Nat.le_refl, Int.cast_ofNat_Int, Int.min_self]
  · by_cases hlt : (k : Int) < temps.length
    · obtain ⟨x, hx⟩ : ∃ x, rs[k]? = some x := ⟨_, List.getElem?_eq_getElem (by omega)⟩
      obtain ⟨y, hy⟩ : ∃ y, rates[k]? = some y := ⟨_, List.getElem?_eq_getElem (by omega)⟩
      have hdx := ints_at hx
      rw [Nat.mul_one] at hdx
      have hdy := flat_at Span.cs (n := 2) (fun _ => rfl) hy
      have h5 := hT5 k (by omega)
      rw [tempAt_eq hx, atS_eq hy] at h5
      have q3 : inB x y.lo y.hi = true := inB_iff.2 h5
      have hw : IntKind.i64.wrap ((k : Int) + 1) = ((k + 1 : Nat) : Int) := by rw [wrap_in (by omega) (by omega)]; omega
      simp (decide := true) (maxSteps := 4000000) only [go_sem, Nat.reduceAdd, Nat.reduceSub, Nat.reduceMul, Nat.reduceDiv, Nat.reduceMod, Nat.reduceLT, Nat.reduceLeDiff, Nat.reduceEqDiff, Nat.reduceBEq, Nat.reduceBNe, Nat.reduceGT, Int.reduceAdd, Int.reduceSub, Int.reduceMul, Int.reduceNeg, Int.reduceLT, Int.reduceLE, Int.reduceEq, Int.reduceNe, Int.reduceBEq, Int.reduceBNe, Int.reduceToNat, Int.reduceGT, Int.reduceGE, ↓reduceIte, decide_true, decide_false, eq_self, Nat.mul_one, Nat.zero_mul, Nat.one_mul, Int.le_refl, Nat.le_refl, Int.cast_ofNat_Int, Int.min_self, hlt, hdx, hdy, q3, Span.cs]
      refine hI1 _ ⟨k + 1, by omega⟩ (by simp only; omega) ?_
      simp (decide := true) (maxSteps := 4000000) only [go_sem, Nat.reduceAdd, Nat.reduceSub, Nat.reduceMul, Nat.reduceDiv, Nat.reduceMod, Nat.reduceLT, Nat.reduceLeDiff, Nat.reduceEqDiff, Nat.reduceBEq, Nat.reduceBNe, Nat.reduceGT, Int.reduceAdd, Int.reduceSub, Int.reduceMul, Int.reduceNeg, Int.reduceLT, Int.reduceLE, Int.reduceEq, Int.reduceNe, Int.reduceBEq, Int.reduceBNe, Int.reduceToNat, Int.reduceGT, Int.reduceGE, ↓reduceIte, decide_true, decide_false, eq_self, Nat.mul_one, Nat.zero_mul, Nat.one_mul, Int.le_refl, Nat.le_refl, Int.cast_ofNat_Int, hw, Int.min_self]
    · simp (decide := true) (maxSteps := 4000000) only [go_sem, Nat.reduceAdd, Nat.reduceSub, Nat.reduceMul, Nat.reduceDiv, Nat.reduceMod, Nat.reduceLT, Nat.reduceLeDiff, Nat.reduceEqDiff, Nat.reduceBEq, Nat.reduceBNe, Nat.reduceGT, Int.reduceAdd, Int.reduceSub, Int.reduceMul, Int.reduceNeg, Int.reduceLT, Int.reduceLE, Int.reduceEq, Int.reduceNe, Int.reduceBEq, Int.reduceBNe, Int.reduceToNat, Int.reduceGT, Int.reduceGE, ↓reduceIte, decide_true, decide_false, eq_self, Nat.mul_one, Nat.zero_mul, Nat.one_mul, Int.le_refl, Nat.le_refl, Int.cast_ofNat_Int, Int.min_self, hlt]
      refine hQ1 _ _ ?_
      simp (decide := true) (maxSteps := 4000000) only [go_sem, Nat.reduceAdd, Nat.reduceSub, Nat.reduceMul, Nat.reduceDiv, Nat.reduceMod, Nat.reduceLT, Nat.reduceLeDiff, Nat.reduceEqDiff, Nat.reduceBEq, Nat.reduceBNe, Nat.reduceGT, Int.reduceAdd, Int.reduceSub, Int.reduceMul, Int.reduceNeg, Int.reduceLT, Int.reduceLE, Int.reduceEq, Int.reduceNe, Int.reduceBEq, Int.reduceBNe, Int.reduceToNat, Int.reduceGT, Int.reduceGE, ↓reduceIte, decide_true, decide_false, eq_self, Nat.mul_one, Nat.zero_mul, Nat.one_mul, Int.le_refl, Nat.le_refl, Int.cast_ofNat_Int, hT2]
      refine pwpC_loopU (A := { k : Nat // k ≤ d.length }) [1, 5, 6, 7, 8, 10, 108] (fun k => [(109, .t (.int .i64 k.1))]) (fun _ => []) (fun k => d.length - k.1) ⟨0, by omega⟩ (by decide) (fun _ => by rfl) ?_ fun Q2 hQ2 ⟨k2, hk2⟩ I2 hI2 => ?_
      · simp (decide := true) (maxSteps := 4000000) only [go_sem, Nat.reduceAdd, Nat.reduceSub, Nat.reduceMul, Nat.reduceDiv, Nat.reduceMod, Nat.reduceLT, Nat.reduceLeDiff, Nat.reduceEqDiff, Nat.reduceBEq, Nat.reduceBNe, Nat.reduceGT, Int.reduceAdd, Int.reduceSub, Int.reduceMul, Int.reduceNeg, Int.reduceLT, Int.reduceLE, Int.reduceEq, Int.reduceNe, Int.reduceBEq, Int.reduceBNe, Int.reduceToNat, Int.reduceGT, Int.reduceGE, ↓reduceIte, decide_true, decide_false, eq_self, Nat.mul_one, Nat.zero_mul, Nat.one_mul, Int.le_refl, Nat.le_refl, Int.cast_ofNat_Int, Int.min_self]
      · by_cases hlt2 : (k2 : Int) < d.length
        · obtain ⟨x, hx⟩ : ∃ x, ts[k2]? = some x := ⟨_, List.getElem?_eq_getElem (by omega)⟩
          obtain ⟨y, hy⟩ : ∃ y, d[k2]? = some y := ⟨_, List.getElem?_eq_getElem (by omega)⟩
          have hdx := ints_at hx
          rw [Nat.mul_one] at hdx
          have hdy := flat_at Span.cs (n := 2) (fun _ => rfl) hy
          have h5 := hT6 k2 (by omega)
          rw [tempAt_eq hx, atS_eq hy] at h5
          have q3 : inB x y.lo y.hi = true := inB_iff.2 h5
          have hw : IntKind.i64.wrap ((k2 : Int) + 1) = ((k2 + 1 : Nat) : Int) := by rw [wrap_in (by omega) (by omega)]; omega
          simp (decide := true) (maxSteps := 4000000) only [go_sem, Nat.reduceAdd, Nat.reduceSub, Nat.reduceMul, Nat.reduceDiv, Nat.reduceMod, Nat.reduceLT, Nat.reduceLeDiff, Nat.reduceEqDiff, Nat.reduceBEq, Nat.reduceBNe, Nat.reduceGT, Int.reduceAdd, Int.reduceSub, Int.reduceMul, Int.reduceNeg, Int.reduceLT, Int.reduceLE, Int.reduceEq, Int.reduceNe, Int.reduceBEq, Int.reduceBNe, Int.reduceToNat, Int.reduceGT, Int.reduceGE, ↓reduceIte, decide_true, decide_false, eq_self, Nat.mul_one, Nat.zero_mul, Nat.one_mul, Int.le_refl, Nat.le_refl, Int.cast_ofNat_Int, Int.min_self, hlt2, hdx, hdy, q3, Span.cs]
          refine hI2 _ ⟨k2 + 1, by omega⟩ (by simp only; omega) ?_
          simp (decide := true) (maxSteps := 4000000) only [go_sem, Nat.reduceAdd, Nat.reduceSub, Nat.reduceMul, Nat.reduceDiv, Nat.reduceMod, Nat.reduceLT, Nat.reduceLeDiff, Nat.reduceEqDiff, Nat.reduceBEq, Nat.reduceBNe, Nat.reduceGT, Int.reduceAdd, Int.reduceSub, Int.reduceMul, Int.reduceNeg, Int.reduceLT, Int.reduceLE, Int.reduceEq, Int.reduceNe, Int.reduceBEq, Int.reduceBNe, Int.reduceToNat, Int.reduceGT, Int.reduceGE, ↓reduceIte, decide_true, decide_false, eq_self, Nat.mul_one, Nat.zero_mul, Nat.one_mul, Int.le_refl, Nat.le_refl, Int.cast_ofNat_Int, hw, Int.min_self]
        · simp (decide := true) (maxSteps := 4000000) only [go_sem, Nat.reduceAdd, Nat.reduceSub, Nat.reduceMul, Nat.reduceDiv, Nat.reduceMod, Nat.reduceLT, Nat.reduceLeDiff, Nat.reduceEqDiff, Nat.reduceBEq, Nat.reduceBNe, Nat.reduceGT, Int.reduceAdd, Int.reduceSub, Int.reduceMul, Int.reduceNeg, Int.reduceLT, Int.reduceLE, Int.reduceEq, Int.reduceNe, Int.reduceBEq, Int.reduceBNe, Int.reduceToNat, Int.reduceGT, Int.reduceGE, ↓reduceIte, decide_true, decide_false, eq_self, Nat.mul_one, Nat.zero_mul, Nat.one_mul, Int.le_refl, Nat.le_refl, Int.cast_ofNat_Int, Int.min_self, hlt2]
          refine hQ2 _ _ ?_
          simp (decide := true) (maxSteps := 4000000) only [go_sem, Nat.reduceAdd, Nat.reduceSub, Nat.reduceMul, Nat.reduceDiv, Nat.reduceMod, Nat.reduceLT, Nat.reduceLeDiff, Nat.reduceEqDiff, Nat.reduceBEq, Nat.reduceBNe, Nat.reduceGT, Int.reduceAdd, Int.reduceSub, Int.reduceMul, Int.reduceNeg, Int.reduceLT, Int.reduceLE, Int.reduceEq, Int.reduceNe, Int.reduceBEq, Int.reduceBNe, Int.reduceToNat, Int.reduceGT, Int.reduceGE, ↓reduceIte, decide_true, decide_false, eq_self, Nat.mul_one, Nat.zero_mul, Nat.one_mul, Int.le_refl, Nat.le_refl, Int.cast_ofNat_Int]
          refine pwpC_loopU (A := { k : Nat // k ≤ d.length }) [1, 5, 6, 7, 8, 13, 143] (fun k => [(144, .t (.int .i64 k.1)), (15, .t (.int .i64 (EA k.1))), (14, .own (ints (ET k.1)) k.1 3)]) (fun k => [(3, .tok k.1 3)]) (fun k => d.length - k.1) ⟨0, by omega⟩ (by decide) (fun _ => by rfl) ?_ fun Q3 hQ3 ⟨k3, hk3⟩ I3 hI3 => ?_
          · simp (decide := true) (maxSteps := 4000000) only [go_sem, Nat.reduceAdd, Nat.reduceSub, Nat.reduceMul, Nat.reduceDiv, Nat.reduceMod, Nat.reduceLT, Nat.reduceLeDiff, Nat.reduceEqDiff, Nat.reduceBEq, Nat.reduceBNe, Nat.reduceGT, Int.reduceAdd, Int.reduceSub, Int.reduceMul, Int.reduceNeg, Int.reduceLT, Int.reduceLE, Int.reduceEq, Int.reduceNe, Int.reduceBEq, Int.reduceBNe, Int.reduceToNat, Int.reduceGT, Int.reduceGE, ↓reduceIte, decide_true, decide_false, eq_self, Nat.mul_one, Nat.zero_mul, Nat.one_mul, Int.le_refl, Nat.le_refl, Int.cast_ofNat_Int, e00, e01, ints, List.map_nil]
          · by_cases hlt3 : (k3 : Int) < d.length
            · obtain ⟨x, hx⟩ : ∃ x, ts[k3]? = some x := ⟨_, List.getElem?_eq_getElem (by omega)⟩
              have hdx := ints_at hx
              rw [Nat.mul_one] at hdx
              have tx := tempAt_eq hx
              have h5 := hT6 k3 (by omega)
              rw [tx] at h5
              have hr := hrat x k3 (by omega) h5.1 h5.2
              have hrb := rateP_b (ratOk_iff hr) hg
              have hE1 := heb k3 (by omega)
              have hE2 := heb (k3 + 1) (by omega)
              have m1 : -1000 * (k3 : Int) ≤ age * (k3 : Int) := Int.mul_le_mul_of_nonneg_right (by omega) (by omega)
              have m2 : age * (k3 : Int) ≤ 1000 * (k3 : Int) := Int.mul_le_mul_of_nonneg_right (by omega) (by omega)
              have hel := el k3
              rw [tx] at hel
              have w1 : IntKind.i64.wrap (age * (k3 : Int)) = age * k3 := wrap_in (by omega) (by omega)
              have w2 : IntKind.i64.wrap (rateP temps (tempAt rs) x + age * (k3 : Int)) = rateP temps (tempAt rs) x + age * k3 := wrap_in (by omega) (by omega)
              have w3 : IntKind.i64.wrap (EA k3 + (rateP temps (tempAt rs) x + age * (k3 : Int))) = EA (k3 + 1) := by rw [hel]; exact wrap_in (by omega) (by omega)
              have w4 : IntKind.i64.wrap ((k3 : Int) + 1) = ((k3 + 1 : Nat) : Int) := by rw [wrap_in (by omega) (by omega)]; omega
              have kl : (ints (ET k3)).length = k3 := by unfold ints; rw [List.length_map, eln]
              have k8 : (k3 + 1) * 8 ≤ 140737488355328 := by omega
              have ia : ints (ET (k3 + 1)) = ints (ET k3) ++ [.int .i64 (EA (k3 + 1))] := by rw [es]; unfold ints; rw [List.map_append]; rfl
              simp (decide := true) (maxSteps := 4000000) only [go_sem, Nat.reduceAdd, Nat.reduceSub, Nat.reduceMul, Nat.reduceDiv, Nat.reduceMod, Nat.reduceLT, Nat.reduceLeDiff, Nat.reduceEqDiff, Nat.reduceBEq, Nat.reduceBNe, Nat.reduceGT, Int.reduceAdd, Int.reduceSub, Int.reduceMul, Int.reduceNeg, Int.reduceLT, Int.reduceLE, Int.reduceEq, Int.reduceNe, Int.reduceBEq, Int.reduceBNe, Int.reduceToNat, Int.reduceGT, Int.reduceGE, ↓reduceIte, decide_true, decide_false, eq_self, Nat.mul_one, Nat.zero_mul, Nat.one_mul, Int.le_refl, Nat.le_refl, Int.cast_ofNat_Int, hlt3, hdx, hm, rT, hr, hT1, hg, w1, w2, w3, kl, k8]
              refine hI3 _ ⟨k3 + 1, by omega⟩ (by simp only; omega) ?_
              simp (decide := true) (maxSteps := 4000000) only [go_sem, Nat.reduceAdd, Nat.reduceSub, Nat.reduceMul, Nat.reduceDiv, Nat.reduceMod, Nat.reduceLT, Nat.reduceLeDiff, Nat.reduceEqDiff, Nat.reduceBEq, Nat.reduceBNe, Nat.reduceGT, Int.reduceAdd, Int.reduceSub, Int.reduceMul, Int.reduceNeg, Int.reduceLT, Int.reduceLE, Int.reduceEq, Int.reduceNe, Int.reduceBEq, Int.reduceBNe, Int.reduceToNat, Int.reduceGT, Int.reduceGE, ↓reduceIte, decide_true, decide_false, eq_self, Nat.mul_one, Nat.zero_mul, Nat.one_mul, Int.le_refl, Nat.le_refl, Int.cast_ofNat_Int, w4, ia]
            · have hkl : k3 = d.length := by omega
              subst hkl
              simp (decide := true) (maxSteps := 4000000) only [go_sem, Nat.reduceAdd, Nat.reduceSub, Nat.reduceMul, Nat.reduceDiv, Nat.reduceMod, Nat.reduceLT, Nat.reduceLeDiff, Nat.reduceEqDiff, Nat.reduceBEq, Nat.reduceBNe, Nat.reduceGT, Int.reduceAdd, Int.reduceSub, Int.reduceMul, Int.reduceNeg, Int.reduceLT, Int.reduceLE, Int.reduceEq, Int.reduceNe, Int.reduceBEq, Int.reduceBNe, Int.reduceToNat, Int.reduceGT, Int.reduceGE, ↓reduceIte, decide_true, decide_false, eq_self, Nat.mul_one, Nat.zero_mul, Nat.one_mul, Int.le_refl, Nat.le_refl, Int.cast_ofNat_Int, hlt3]
              refine hQ3 _ _ ?_
              have hne : ¬ d.length = 0 := by omega
              have kl : (ints (ET d.length)).length = d.length := by unfold ints; rw [List.length_map, eln]
              have kt : List.take d.length (ints (ET d.length)) = ints (ET d.length) := List.take_of_length_le (by omega)
              simp (decide := true) (maxSteps := 4000000) only [go_sem, Nat.reduceAdd, Nat.reduceSub, Nat.reduceMul, Nat.reduceDiv, Nat.reduceMod, Nat.reduceLT, Nat.reduceLeDiff, Nat.reduceEqDiff, Nat.reduceBEq, Nat.reduceBNe, Nat.reduceGT, Int.reduceAdd, Int.reduceSub, Int.reduceMul, Int.reduceNeg, Int.reduceLT, Int.reduceLE, Int.reduceEq, Int.reduceNe, Int.reduceBEq, Int.reduceBNe, Int.reduceToNat, Int.reduceGT, Int.reduceGE, ↓reduceIte, decide_true, decide_false, eq_self, Nat.mul_one, Nat.zero_mul, Nat.one_mul, Int.le_refl, Nat.le_refl, Int.cast_ofNat_Int, hne, kl, kt]
end Go.Proofs.Ytadkjjnnnkfalaa

/- Part Ki. -/
namespace Go.Proofs.Ytadkjjnnnkfalaa
open Go.RowKit Go.Pm Go.Oc Go.Oh Go.Os Go.Ok
set_option maxRecDepth 100000
set_option linter.unusedVariables false
set_option maxHeartbeats 4000000

theorem kApart_c (a0 a1 b0 b1 : Int) (s : Span) (hne : ¬ (a0 = b0 ∧ a1 = b1)) (hb : -4000000000000000000 ≤ s.lo ∧ s.lo ≤ 4000000000000000000) : PCalls Try.prog 124 [.agg [.int .i64 a0, .int .i64 a1], .agg [.int .i64 b0, .int .i64 b1], .agg [.int .i64 s.lo, .int .i64 s.hi]] (.sl [.int .i64 a0, .int .i64 a1, .int .i64 b0, .int .i64 b1, .int .i64 s.hi, .int .i64 b0, .int .i64 b1, .int .i64 a0, .int .i64 a1, .int .i64 (-s.lo)] 2 true) := by
  have w : IntKind.i64.wrap (0 - s.lo) = -s.lo := by rw [wrap_in (by omega) (by omega)]; omega
  have he : ((a0 == b0) && (a1 == b1)) = false := by
    cases h1 : (a0 == b0) <;> cases h2 : (a1 == b1) <;> simp_all
  refine pcalls_by Try.mixes noSpec_ok (fn := Try.f124) Try.func124 rfl (by kernel_rfl) (by show 3 ≤ _; decide) ?_
  simp (decide := true) (maxSteps := 4000000) only [go_sem, Nat.reduceAdd, Nat.reduceSub, Nat.reduceMul, Nat.reduceDiv, Nat.reduceMod, Nat.reduceLT, Nat.reduceLeDiff, Nat.reduceEqDiff, Nat.reduceBEq, Nat.reduceBNe, Nat.reduceGT, Int.reduceAdd, Int.reduceSub, Int.reduceMul, Int.reduceNeg, Int.reduceLT, Int.reduceLE, Int.reduceEq, Int.reduceNe, Int.reduceBEq, Int.reduceBNe, Int.reduceToNat, Int.reduceGT, Int.reduceGE, ↓reduceIte, decide_true, decide_false, eq_self, Nat.mul_one, Nat.zero_mul, Nat.one_mul, Int.le_refl, Nat.le_refl, Int.cast_ofNat_Int, Try.f124, w, he]
  all_goals
    cases h1 : (a0 == b0) <;> cases h2 : (a1 == b1) <;> simp_all
noncomputable def ckApart : List TV → Option TV
  | [.agg [.int .i64 a0, .int .i64 a1], .agg [.int .i64 b0, .int .i64 b1], .agg [.int .i64 lo, .int .i64 hi]] => if ¬ (a0 = b0 ∧ a1 = b1) ∧ (-4000000000000000000 ≤ lo ∧ lo ≤ 4000000000000000000) then some (.sl [.int .i64 a0, .int .i64 a1, .int .i64 b0, .int .i64 b1, .int .i64 hi, .int .i64 b0, .int .i64 b1, .int .i64 a0, .int .i64 a1, .int .i64 (-lo)] 2 true) else none
  | _ => none
theorem ckApart_ok : ∀ xs r, ckApart xs = some r → PCalls Try.prog 124 xs r := by
  intro xs r h
  unfold ckApart at h
  split at h
  · split at h
    · rename_i hc; cases h; exact kApart_c _ _ _ _ ⟨_, _⟩ hc.1 hc.2
    · cases h
  · cases h
attribute [go_sem] ckApart
/-- The cells of a watch. -/
def wCells (sF sS : TV) (wr : Int) (r0 r1 r2 : Span) (days : Int) (id : Nat) : List PV := [.t sF, .t sS, .t (.int .i64 wr), .t (.int .i64 r0.lo), .t (.int .i64 r0.hi), .t (.int .i64 r1.lo), .t (.int .i64 r1.hi), .t (.int .i64 r2.lo), .t (.int .i64 r2.hi), .t (.int .i64 days), .mapr id]
theorem kAround_c (n wr : Int) (sF sS : TV) (r0 r1 r2 : Span) (days : Int) (t : TypeId) (F : TV → Option TV) (hn : -1000000000 ≤ n ∧ n ≤ 1000000000) (hw : 0 ≤ wr ∧ wr ≤ 1000) : HCalls Try.prog 123 [.t (.int .i64 n), .ptr 0 0] (getL [.box (wCells sF sS wr r0 r1 r2 days 1), .mp t F]) (.t (.agg [.int .i64 (n - wr), .int .i64 (n + wr)])) (getL [.box (wCells sF sS wr r0 r1 r2 days 1), .mp t F]) := by
  have w1 : IntKind.i64.wrap (n - wr) = n - wr := wrap_in (by omega) (by omega)
  have w2 : IntKind.i64.wrap (n + wr) = n + wr := wrap_in (by omega) (by omega)
  refine hcalls_by Try.mixes noSpec_ok (fn := Try.f123) Try.func123 rfl (by kernel_rfl) (by show 2 ≤ _; decide) ?_
  simp (decide := true) (maxSteps := 4000000) only [go_sem, Nat.reduceAdd, Nat.reduceSub, Nat.reduceMul, Nat.reduceDiv, Nat.reduceMod, Nat.reduceLT, Nat.reduceLeDiff, Nat.reduceEqDiff, Nat.reduceBEq, Nat.reduceBNe, Nat.reduceGT, Int.reduceAdd, Int.reduceSub, Int.reduceMul, Int.reduceNeg, Int.reduceLT, Int.reduceLE, Int.reduceEq, Int.reduceNe, Int.reduceBEq, Int.reduceBNe, Int.reduceToNat, Int.reduceGT, Int.reduceGE, ↓reduceIte, decide_true, decide_false, eq_self, Nat.mul_one, Nat.zero_mul, Nat.one_mul, Int.le_refl, Nat.le_refl, Int.cast_ofNat_Int, Try.f123, w1, w2, wCells]
  exact ⟨_, rfl, rfl⟩
noncomputable def gAround : List PV → List PO → Option (PV × List PO)
  | [.t (.int .i64 n), .ptr 0 0], [.box [.t sF, .t sS, .t (.int .i64 wr), .t (.int .i64 a0), .t (.int .i64 a1), .t (.int .i64 b0), .t (.int .i64 b1), .t (.int .i64 c0), .t (.int .i64 c1), .t (.int .i64 days), .mapr 1], .mp t F] =>
    if (-1000000000 ≤ n ∧ n ≤ 1000000000) ∧ 0 ≤ wr ∧ wr ≤ 1000 then some (.t (.agg [.int .i64 (n - wr), .int .i64 (n + wr)]), [.box [.t sF, .t sS, .t (.int .i64 wr), .t (.int .i64 a0), .t (.int .i64 a1), .t (.int .i64 b0), .t (.int .i64 b1), .t (.int .i64 c0), .t (.int .i64 c1), .t (.int .i64 days), .mapr 1], .mp t F]) else none
  | _, _ => none
theorem gAround_ok : ∀ xs hl r hl', gAround xs hl = some (r, hl') → HCalls Try.prog 123 xs (getL hl) r (getL hl') := by
  intro xs hl r hl' h
  unfold gAround at h
  split at h
  · split at h
    · rename_i hc
      simp only [Option.some.injEq, Prod.mk.injEq] at h
      obtain ⟨rfl, rfl⟩ := h
      exact kAround_c _ _ _ _ ⟨_, _⟩ ⟨_, _⟩ ⟨_, _⟩ _ _ _ hc.1 hc.2
    · cases h
  · cases h
attribute [go_sem] gAround
noncomputable def spKi : Pm.Spec := (noSpec.one 124 ckApart).oneH 123 gAround
@[go_sem] theorem spKi_p (f : FuncId) (xs : List TV) : spKi.p f xs = Pm.Spec.p ((noSpec.one 124 ckApart).oneH 123 gAround) f xs := rfl
@[go_sem] theorem spKi_h (f : FuncId) (ps : List PV) (hl : List PO) : spKi.h f ps hl = Pm.Spec.h ((noSpec.one 124 ckApart).oneH 123 gAround) f ps hl := rfl
@[go_sem] theorem spKi_y (Y : Pm.YS) (f : FuncId) (ps : List PV) (hl : List PO) : spKi.y Y f ps hl = Pm.Spec.y ((noSpec.one 124 ckApart).oneH 123 gAround) Y f ps hl := rfl
@[go_sem] theorem spKi_fz (f : FuncId) : spKi.fz f = Pm.Spec.fz ((noSpec.one 124 ckApart).oneH 123 gAround) f := rfl
@[go_sem] theorem spKi_fr (f : FuncId) : spKi.fr f = Pm.Spec.fr ((noSpec.one 124 ckApart).oneH 123 gAround) f := rfl
@[go_sem] theorem spKi_yf (f : FuncId) : spKi.yf f = Pm.Spec.yf ((noSpec.one 124 ckApart).oneH 123 gAround) f := rfl
@[go_sem] theorem spKi_mu (t : TypeId) : spKi.mu t = Pm.Spec.mu ((noSpec.one 124 ckApart).oneH 123 gAround) t := rfl
@[go_sem] theorem spKi_nf (t : TypeId) : spKi.nf t = Pm.Spec.nf ((noSpec.one 124 ckApart).oneH 123 gAround) t := rfl
theorem spKi_ok : SpecOk Try.prog spKi := Spec.oneH_ok gAround_ok (Spec.one_ok ckApart_ok noSpec_ok)
end Go.Proofs.Ytadkjjnnnkfalaa
