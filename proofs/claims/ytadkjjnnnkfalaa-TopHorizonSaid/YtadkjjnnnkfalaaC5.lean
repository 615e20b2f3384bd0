/- What the claim leans on, text 5. -/
import Derived.Test.YtadkjjnnnkfalaaC4
set_option linter.unusedSimpArgs false
set_option linter.unusedVariables false

/- Part Hb. -/
namespace Go.Proofs.Ytadkjjnnnkfalaa.Sx
end Go.Proofs.Ytadkjjnnnkfalaa.Sx
namespace Go.Proofs.Ytadkjjnnnkfalaa.Sx
open Go.RowKit Go.Pm Go.Oc Go.Oh
set_option maxRecDepth 100000
set_option linter.unusedVariables false
set_option maxHeartbeats 1000000

/-- Cells that are trees. -/
@[go_sem] theorem map_ren_t (ids : List Nat) (cs : List TV) : List.map (PV.ren ids) (List.map PV.t cs) = List.map PV.t cs := by rw [List.map_map]; rfl
@[go_sem] theorem map_inv_t (ids : List Nat) (cs : List TV) : List.map (PV.inv ids) (List.map PV.t cs) = List.map PV.t cs := by rw [List.map_map]; rfl
@[go_sem] theorem all_under_t (k : Nat) (cs : List TV) : (List.map PV.t cs).all (PV.under k) = true := by rw [List.all_map, List.all_eq_true]; intro x _; rfl
@[go_sem] theorem cellsW_t (l : List PO) : ∀ cs : List TV, cellsW l (List.map PV.t cs) (List.map PV.t cs) = True
  | [] => by simp [cellsW]
  | c :: cs => by simp [cellsW, cellsW_t l cs, cellW, PV.toT]
@[go_sem] theorem flat_idsG_t (cs : List TV) : List.flatMap idsG (List.map PV.t cs) = [] := by
  induction cs with
  | nil => rfl
  | cons c cs ih => rw [List.map_cons, List.flatMap_cons, ih]; rfl
@[go_sem] theorem flat_idsP_t (cs : List TV) : List.flatMap idsP (List.map PV.t cs) = [] := by
  induction cs with
  | nil => rfl
  | cons c cs ih => rw [List.map_cons, List.flatMap_cons, ih]; rfl
theorem allO_toT : ∀ cs : List TV, allO (List.map PV.toT (List.map PV.t cs)) = some cs
  | [] => rfl
  | c :: cs => by rw [List.map_cons, List.map_cons]; simp only [PV.toT, allO, allO_toT cs]; rfl
theorem allO_thaw (h : Hp) : ∀ cs : List TV, allO (List.map (thawC h) (List.map PV.t cs)) = some cs
  | [] => rfl
  | c :: cs => by rw [List.map_cons, List.map_cons]; simp only [thawC, PV.toT, allO, allO_thaw h cs]; rfl
@[go_sem] theorem allO_thawA (h : Hp) (cs ds : List TV) : allO (List.map (thawC h) (List.map PV.t cs ++ List.map PV.t ds)) = some (cs ++ ds) := by rw [← List.map_append]; exact allO_thaw h _
attribute [go_sem] allO_toT allO_thaw

theorem hIn_c (n lo hi : Int) : PCalls Try.prog 31 [.int .i64 n, .int .i64 lo, .int .i64 hi] (.bool (inB n lo hi)) := by
  refine pcalls_by Try.mixes noSpec_ok (fn := Try.f31) Try.func31 rfl (by kernel_rfl) (by show 3 ≤ _; decide) ?_
  simp (decide := true) (maxSteps := 4000000) only [go_sem, Nat.reduceAdd, Nat.reduceSub, Nat.reduceMul, Nat.reduceDiv, Nat.reduceMod, Nat.reduceLT, Nat.reduceLeDiff, Nat.reduceEqDiff, Nat.reduceBEq, Nat.reduceBNe, Nat.reduceGT, Int.reduceAdd, Int.reduceSub, Int.reduceMul, Int.reduceNeg, Int.reduceLT, Int.reduceLE, Int.reduceEq, Int.reduceNe, Int.reduceBEq, Int.reduceBNe, Int.reduceToNat, Int.reduceGT, Int.reduceGE, ↓reduceIte, decide_true, decide_false, Try.f31, inB, ge_iff_le]
def hgIn : List TV → Option TV
  | [.int .i64 n, .int .i64 a, .int .i64 b] => some (.bool (inB n a b))
  | _ => none
theorem hgIn_ok : ∀ xs r, hgIn xs = some r → PCalls Try.prog 31 xs r := by
  intro xs r h
  unfold hgIn at h
  split at h
  · cases h; exact hIn_c _ _ _
  · cases h
noncomputable def spH1 : Pm.Spec := noSpec.one 31 hgIn
theorem spH1_ok : SpecOk Try.prog spH1 := Spec.one_ok hgIn_ok noSpec_ok
attribute [go_sem] hgIn
@[go_sem] theorem spH1_p (f : FuncId) (xs : List TV) : spH1.p f xs = Pm.Spec.p (noSpec.one 31 hgIn) f xs := rfl
@[go_sem] theorem spH1_h (f : FuncId) (ps : List PV) (hl : List PO) : spH1.h f ps hl = Pm.Spec.h (noSpec.one 31 hgIn) f ps hl := rfl
@[go_sem] theorem spH1_y (Y : Pm.YS) (f : FuncId) (ps : List PV) (hl : List PO) : spH1.y Y f ps hl = Pm.Spec.y (noSpec.one 31 hgIn) Y f ps hl := rfl
@[go_sem] theorem spH1_fz (f : FuncId) : spH1.fz f = Pm.Spec.fz (noSpec.one 31 hgIn) f := rfl
@[go_sem] theorem spH1_fr (f : FuncId) : spH1.fr f = Pm.Spec.fr (noSpec.one 31 hgIn) f := rfl
@[go_sem] theorem spH1_yf (f : FuncId) : spH1.yf f = Pm.Spec.yf (noSpec.one 31 hgIn) f := rfl
@[go_sem] theorem spH1_mu (t : TypeId) : spH1.mu t = Pm.Spec.mu (noSpec.one 31 hgIn) t := rfl
@[go_sem] theorem spH1_nf (t : TypeId) : spH1.nf t = Pm.Spec.nf (noSpec.one 31 hgIn) t := rfl
theorem hMod_c (n by_ : Int) (h : 0 < by_) (h2 : by_ ≤ 9223372036854775807) : PCalls Try.prog 22 [.int .i64 n, .int .i64 by_] (.int .i64 (n % by_)) := by
  refine pcalls_by Try.mixes noSpec_ok (fn := Try.f22) Try.func22 rfl (by kernel_rfl) (by show 2 ≤ _; decide) ?_
  have hne : ¬ by_ = 0 := by omega
  simp (decide := true) (maxSteps := 4000000) only [go_sem, Nat.reduceAdd, Nat.reduceSub, Nat.reduceMul, Nat.reduceDiv, Nat.reduceMod, Nat.reduceLT, Nat.reduceLeDiff, Nat.reduceEqDiff, Nat.reduceBEq, Nat.reduceBNe, Nat.reduceGT, Int.reduceAdd, Int.reduceSub, Int.reduceMul, Int.reduceNeg, Int.reduceLT, Int.reduceLE, Int.reduceEq, Int.reduceNe, Int.reduceBEq, Int.reduceBNe, Int.reduceToNat, Int.reduceGT, Int.reduceGE, ↓reduceIte, decide_true, decide_false, Try.f22, hne]
  have e := Int.tmod_eq_emod (a := n) (b := by_)
  have e1 := Int.emod_nonneg n hne
  have e2 := Int.emod_lt_of_pos n h
  by_cases hn : n.tmod by_ < 0
  · simp (decide := true) (maxSteps := 4000000) only [go_sem, Nat.reduceAdd, Nat.reduceSub, Nat.reduceMul, Nat.reduceDiv, Nat.reduceMod, Nat.reduceLT, Nat.reduceLeDiff, Nat.reduceEqDiff, Nat.reduceBEq, Nat.reduceBNe, Nat.reduceGT, Int.reduceAdd, Int.reduceSub, Int.reduceMul, Int.reduceNeg, Int.reduceLT, Int.reduceLE, Int.reduceEq, Int.reduceNe, Int.reduceBEq, Int.reduceBNe, Int.reduceToNat, Int.reduceGT, Int.reduceGE, ↓reduceIte, decide_true, decide_false, hn]
    have e3 : n.tmod by_ + by_ = n % by_ := by
      rw [e] at hn ⊢
      split at hn
      · omega
      · rename_i hc
        rw [if_neg hc]
        have : (by_.natAbs : Int) = by_ := by omega
        omega
    rw [e3, wrap_in (by omega) (by omega)]
  · simp (decide := true) (maxSteps := 4000000) only [go_sem, Nat.reduceAdd, Nat.reduceSub, Nat.reduceMul, Nat.reduceDiv, Nat.reduceMod, Nat.reduceLT, Nat.reduceLeDiff, Nat.reduceEqDiff, Nat.reduceBEq, Nat.reduceBNe, Nat.reduceGT, Int.reduceAdd, Int.reduceSub, Int.reduceMul, Int.reduceNeg, Int.reduceLT, Int.reduceLE, Int.reduceEq, Int.reduceNe, Int.reduceBEq, Int.reduceBNe, Int.reduceToNat, Int.reduceGT, Int.reduceGE, ↓reduceIte, decide_true, decide_false, hn]
    rw [e] at hn ⊢
    split at hn
    · rename_i hc; rw [if_pos hc]; simp
    · rename_i hc
      have : (by_.natAbs : Int) = by_ := by omega
      omega
def hgMod : List TV → Option TV
  | [.int .i64 n, .int .i64 b] => if 0 < b ∧ b ≤ 9223372036854775807 then some (.int .i64 (n % b)) else none
  | _ => none
theorem hgMod_ok : ∀ xs r, hgMod xs = some r → PCalls Try.prog 22 xs r := by
  intro xs r h
  unfold hgMod at h
  split at h
  · split at h
    · rename_i hc; cases h; exact hMod_c _ _ hc.1 hc.2
    · cases h
  · cases h
noncomputable def spH2 : Pm.Spec := spH1.one 22 hgMod
theorem spH2_ok : SpecOk Try.prog spH2 := Spec.one_ok hgMod_ok spH1_ok
attribute [go_sem] hgMod
@[go_sem] theorem spH2_p (f : FuncId) (xs : List TV) : spH2.p f xs = Pm.Spec.p (spH1.one 22 hgMod) f xs := rfl
@[go_sem] theorem spH2_h (f : FuncId) (ps : List PV) (hl : List PO) : spH2.h f ps hl = Pm.Spec.h (spH1.one 22 hgMod) f ps hl := rfl
@[go_sem] theorem spH2_y (Y : Pm.YS) (f : FuncId) (ps : List PV) (hl : List PO) : spH2.y Y f ps hl = Pm.Spec.y (spH1.one 22 hgMod) Y f ps hl := rfl
@[go_sem] theorem spH2_fz (f : FuncId) : spH2.fz f = Pm.Spec.fz (spH1.one 22 hgMod) f := rfl
@[go_sem] theorem spH2_fr (f : FuncId) : spH2.fr f = Pm.Spec.fr (spH1.one 22 hgMod) f := rfl
@[go_sem] theorem spH2_yf (f : FuncId) : spH2.yf f = Pm.Spec.yf (spH1.one 22 hgMod) f := rfl
@[go_sem] theorem spH2_mu (t : TypeId) : spH2.mu t = Pm.Spec.mu (spH1.one 22 hgMod) t := rfl
@[go_sem] theorem spH2_nf (t : TypeId) : spH2.nf t = Pm.Spec.nf (spH1.one 22 hgMod) t := rfl
noncomputable def spH3 : Pm.Spec := spH2
theorem spH3_ok : SpecOk Try.prog spH3 := spH2_ok
@[go_sem] theorem spH3_p (f : FuncId) (xs : List TV) : spH3.p f xs = Pm.Spec.p (spH2) f xs := rfl
@[go_sem] theorem spH3_h (f : FuncId) (ps : List PV) (hl : List PO) : spH3.h f ps hl = Pm.Spec.h (spH2) f ps hl := rfl
@[go_sem] theorem spH3_y (Y : Pm.YS) (f : FuncId) (ps : List PV) (hl : List PO) : spH3.y Y f ps hl = Pm.Spec.y (spH2) Y f ps hl := rfl
@[go_sem] theorem spH3_fz (f : FuncId) : spH3.fz f = Pm.Spec.fz (spH2) f := rfl
@[go_sem] theorem spH3_fr (f : FuncId) : spH3.fr f = Pm.Spec.fr (spH2) f := rfl
@[go_sem] theorem spH3_yf (f : FuncId) : spH3.yf f = Pm.Spec.yf (spH2) f := rfl
@[go_sem] theorem spH3_mu (t : TypeId) : spH3.mu t = Pm.Spec.mu (spH2) t := rfl
@[go_sem] theorem spH3_nf (t : TypeId) : spH3.nf t = Pm.Spec.nf (spH2) t := rfl
noncomputable def spH4 : Pm.Spec := spH3
theorem spH4_ok : SpecOk Try.prog spH4 := spH3_ok
@[go_sem] theorem spH4_p (f : FuncId) (xs : List TV) : spH4.p f xs = Pm.Spec.p (spH3) f xs := rfl
@[go_sem] theorem spH4_h (f : FuncId) (ps : List PV) (hl : List PO) : spH4.h f ps hl = Pm.Spec.h (spH3) f ps hl := rfl
@[go_sem] theorem spH4_y (Y : Pm.YS) (f : FuncId) (ps : List PV) (hl : List PO) : spH4.y Y f ps hl = Pm.Spec.y (spH3) Y f ps hl := rfl
@[go_sem] theorem spH4_fz (f : FuncId) : spH4.fz f = Pm.Spec.fz (spH3) f := rfl
@[go_sem] theorem spH4_fr (f : FuncId) : spH4.fr f = Pm.Spec.fr (spH3) f := rfl
@[go_sem] theorem spH4_yf (f : FuncId) : spH4.yf f = Pm.Spec.yf (spH3) f := rfl
@[go_sem] theorem spH4_mu (t : TypeId) : spH4.mu t = Pm.Spec.mu (spH3) t := rfl
@[go_sem] theorem spH4_nf (t : TypeId) : spH4.nf t = Pm.Spec.nf (spH3) t := rfl
theorem hHolds_c (s : Span) (n : Int) : PCalls Try.prog 36 [s.t, .int .i64 n] (.bool (inB n s.lo s.hi)) := by
  refine pcalls_by Try.mixes spH4_ok (fn := Try.f36) Try.func36 rfl (by kernel_rfl) (by show 2 ≤ _; decide) ?_
  simp (decide := true) (maxSteps := 4000000) only [go_sem, Nat.reduceAdd, Nat.reduceSub, Nat.reduceMul, Nat.reduceDiv, Nat.reduceMod, Nat.reduceLT, Nat.reduceLeDiff, Nat.reduceEqDiff, Nat.reduceBEq, Nat.reduceBNe, Nat.reduceGT, Int.reduceAdd, Int.reduceSub, Int.reduceMul, Int.reduceNeg, Int.reduceLT, Int.reduceLE, Int.reduceEq, Int.reduceNe, Int.reduceBEq, Int.reduceBNe, Int.reduceToNat, Int.reduceGT, Int.reduceGE, ↓reduceIte, decide_true, decide_false, Try.f36, Span.t, Span.cs]
def hgHolds : List TV → Option TV
  | [.agg [.int .i64 x, .int .i64 y], .int .i64 n] => some (.bool (inB n x y))
  | _ => none
theorem hgHolds_ok : ∀ xs r, hgHolds xs = some r → PCalls Try.prog 36 xs r := by
  intro xs r h
  unfold hgHolds at h
  split at h
  · cases h; exact hHolds_c ⟨_, _⟩ _
  · cases h
noncomputable def spH5 : Pm.Spec := spH4.one 36 hgHolds
theorem spH5_ok : SpecOk Try.prog spH5 := Spec.one_ok hgHolds_ok spH4_ok
attribute [go_sem] hgHolds
@[go_sem] theorem spH5_p (f : FuncId) (xs : List TV) : spH5.p f xs = Pm.Spec.p (spH4.one 36 hgHolds) f xs := rfl
@[go_sem] theorem spH5_h (f : FuncId) (ps : List PV) (hl : List PO) : spH5.h f ps hl = Pm.Spec.h (spH4.one 36 hgHolds) f ps hl := rfl
@[go_sem] theorem spH5_y (Y : Pm.YS) (f : FuncId) (ps : List PV) (hl : List PO) : spH5.y Y f ps hl = Pm.Spec.y (spH4.one 36 hgHolds) Y f ps hl := rfl
@[go_sem] theorem spH5_fz (f : FuncId) : spH5.fz f = Pm.Spec.fz (spH4.one 36 hgHolds) f := rfl
@[go_sem] theorem spH5_fr (f : FuncId) : spH5.fr f = Pm.Spec.fr (spH4.one 36 hgHolds) f := rfl
@[go_sem] theorem spH5_yf (f : FuncId) : spH5.yf f = Pm.Spec.yf (spH4.one 36 hgHolds) f := rfl
@[go_sem] theorem spH5_mu (t : TypeId) : spH5.mu t = Pm.Spec.mu (spH4.one 36 hgHolds) t := rfl
@[go_sem] theorem spH5_nf (t : TypeId) : spH5.nf t = Pm.Spec.nf (spH4.one 36 hgHolds) t := rfl
theorem hWider_c (s : Span) (n : Int) (b : Bool) : PCalls Try.prog 23 [s.t, .int .i64 n, .bool b] (widerS s n b).t := by
  refine pcalls_by Try.mixes noSpec_ok (fn := Try.f23) Try.func23 rfl (by kernel_rfl) (by show 3 ≤ _; decide) ?_
  cases b <;> simp (decide := true) (maxSteps := 4000000) only [go_sem, Nat.reduceAdd, Nat.reduceSub, Nat.reduceMul, Nat.reduceDiv, Nat.reduceMod, Nat.reduceLT, Nat.reduceLeDiff, Nat.reduceEqDiff, Nat.reduceBEq, Nat.reduceBNe, Nat.reduceGT, Int.reduceAdd, Int.reduceSub, Int.reduceMul, Int.reduceNeg, Int.reduceLT, Int.reduceLE, Int.reduceEq, Int.reduceNe, Int.reduceBEq, Int.reduceBNe, Int.reduceToNat, Int.reduceGT, Int.reduceGE, ↓reduceIte, decide_true, decide_false, Try.f23, Span.t, Span.cs, widerS]
def hgWider : List TV → Option TV
  | [.agg [.int .i64 x, .int .i64 y], .int .i64 n, .bool b] => some (widerS ⟨x, y⟩ n b).t
  | _ => none
theorem hgWider_ok : ∀ xs r, hgWider xs = some r → PCalls Try.prog 23 xs r := by
  intro xs r h
  unfold hgWider at h
  split at h
  · cases h; exact hWider_c ⟨_, _⟩ _ _
  · cases h
noncomputable def spH6 : Pm.Spec := spH5.one 23 hgWider
theorem spH6_ok : SpecOk Try.prog spH6 := Spec.one_ok hgWider_ok spH5_ok
attribute [go_sem] hgWider
@[go_sem] theorem spH6_p (f : FuncId) (xs : List TV) : spH6.p f xs = Pm.Spec.p (spH5.one 23 hgWider) f xs := rfl
@[go_sem] theorem spH6_h (f : FuncId) (ps : List PV) (hl : List PO) : spH6.h f ps hl = Pm.Spec.h (spH5.one 23 hgWider) f ps hl := rfl
@[go_sem] theorem spH6_y (Y : Pm.YS) (f : FuncId) (ps : List PV) (hl : List PO) : spH6.y Y f ps hl = Pm.Spec.y (spH5.one 23 hgWider) Y f ps hl := rfl
@[go_sem] theorem spH6_fz (f : FuncId) : spH6.fz f = Pm.Spec.fz (spH5.one 23 hgWider) f := rfl
@[go_sem] theorem spH6_fr (f : FuncId) : spH6.fr f = Pm.Spec.fr (spH5.one 23 hgWider) f := rfl
@[go_sem] theorem spH6_yf (f : FuncId) : spH6.yf f = Pm.Spec.yf (spH5.one 23 hgWider) f := rfl
@[go_sem] theorem spH6_mu (t : TypeId) : spH6.mu t = Pm.Spec.mu (spH5.one 23 hgWider) t := rfl
@[go_sem] theorem spH6_nf (t : TypeId) : spH6.nf t = Pm.Spec.nf (spH5.one 23 hgWider) t := rfl
/-- Numbers whose sums and differences fit. -/
def hMid (n : Int) : Prop := -4000000000000000000 ≤ n ∧ n ≤ 4000000000000000000
theorem htdiv_floor {a b : Int} (h : 0 < b) : (a - a % b).tdiv b = a / b := by
  have h1 : a - a % b = b * (a / b) := by have := Int.mul_ediv_add_emod a b; omega
  rw [h1, Int.mul_tdiv_cancel_left _ (by omega)]
theorem hdiv_mid {a b : Int} (ha : hMid a) (h : 0 < b) : hMid (a / b) ∨ False := by
  refine .inl ⟨?_, ?_⟩
  · have := Int.ediv_le_ediv h ha.1
    rcases Int.lt_or_le a 0 with h0 | h0
    · have h2 : a ≤ a / b := by
        rw [Int.le_ediv_iff_mul_le h]
        have : a * b ≤ a * 1 := Int.mul_le_mul_of_nonpos_left (by omega) (by omega)
        omega
      have := ha.1; omega
    · have := Int.ediv_nonneg h0 (by omega : 0 ≤ b); omega
  · rcases Int.lt_or_le a 0 with h0 | h0
    · have : a / b < 0 := Int.ediv_neg_of_neg_of_pos h0 h
      omega
    · have := Int.ediv_le_self b h0; have := ha.2; omega
theorem hDown_c (a b : Int) (ha : hMid a) (hb : 0 < b) (hb2 : hMid b) : PCalls Try.prog 44 [.int .i64 a, .int .i64 b] (.int .i64 (a / b)) := by
  refine pcalls_by Try.mixes spH6_ok (fn := Try.f44) Try.func44 rfl (by kernel_rfl) (by show 2 ≤ _; decide) ?_
  have hne : ¬ b = 0 := by omega
  have e1 := Int.emod_nonneg a hne
  have e2 := Int.emod_lt_of_pos a hb
  have hbd : b ≤ 9223372036854775807 := by have := hb2.2; omega
  have hd := (hdiv_mid ha hb).resolve_right id
  simp (decide := true) (maxSteps := 4000000) only [go_sem, Nat.reduceAdd, Nat.reduceSub, Nat.reduceMul, Nat.reduceDiv, Nat.reduceMod, Nat.reduceLT, Nat.reduceLeDiff, Nat.reduceEqDiff, Nat.reduceBEq, Nat.reduceBNe, Nat.reduceGT, Int.reduceAdd, Int.reduceSub, Int.reduceMul, Int.reduceNeg, Int.reduceLT, Int.reduceLE, Int.reduceEq, Int.reduceNe, Int.reduceBEq, Int.reduceBNe, Int.reduceToNat, Int.reduceGT, Int.reduceGE, ↓reduceIte, decide_true, decide_false, Try.f44, hb, hbd, hne]
  rw [wrap_in (n := a - a % b) (by have := ha.1; have := hb2.2; omega) (by have := ha.2; omega), htdiv_floor hb, wrap_in (by have := hd.1; omega) (by have := hd.2; omega)]
def hgDown : List TV → Option TV
  | [.int .i64 a, .int .i64 b] => if (-4000000000000000000 ≤ a ∧ a ≤ 4000000000000000000) ∧ 0 < b ∧ b ≤ 4000000000000000000 then some (.int .i64 (a / b)) else none
  | _ => none
theorem hgDown_ok : ∀ xs r, hgDown xs = some r → PCalls Try.prog 44 xs r := by
  intro xs r h
  unfold hgDown at h
  split at h
  · split at h
    · rename_i hc; cases h; exact hDown_c _ _ hc.1 hc.2.1 ⟨by omega, hc.2.2⟩
    · cases h
  · cases h
noncomputable def spH7 : Pm.Spec := spH6.one 44 hgDown
theorem spH7_ok : SpecOk Try.prog spH7 := Spec.one_ok hgDown_ok spH6_ok
attribute [go_sem] hgDown
@[go_sem] theorem spH7_p (f : FuncId) (xs : List TV) : spH7.p f xs = Pm.Spec.p (spH6.one 44 hgDown) f xs := rfl
@[go_sem] theorem spH7_h (f : FuncId) (ps : List PV) (hl : List PO) : spH7.h f ps hl = Pm.Spec.h (spH6.one 44 hgDown) f ps hl := rfl
@[go_sem] theorem spH7_y (Y : Pm.YS) (f : FuncId) (ps : List PV) (hl : List PO) : spH7.y Y f ps hl = Pm.Spec.y (spH6.one 44 hgDown) Y f ps hl := rfl
@[go_sem] theorem spH7_fz (f : FuncId) : spH7.fz f = Pm.Spec.fz (spH6.one 44 hgDown) f := rfl
@[go_sem] theorem spH7_fr (f : FuncId) : spH7.fr f = Pm.Spec.fr (spH6.one 44 hgDown) f := rfl
@[go_sem] theorem spH7_yf (f : FuncId) : spH7.yf f = Pm.Spec.yf (spH6.one 44 hgDown) f := rfl
@[go_sem] theorem spH7_mu (t : TypeId) : spH7.mu t = Pm.Spec.mu (spH6.one 44 hgDown) t := rfl
@[go_sem] theorem spH7_nf (t : TypeId) : spH7.nf t = Pm.Spec.nf (spH6.one 44 hgDown) t := rfl
theorem hUp_c (a b : Int) (ha : hMid a) (hb : 0 < b) (hb2 : hMid b) : PCalls Try.prog 42 [.int .i64 a, .int .i64 b] (.int .i64 (-((-a) / b))) := by
  refine pcalls_by Try.mixes spH7_ok (fn := Try.f42) Try.func42 rfl (by kernel_rfl) (by show 2 ≤ _; decide) ?_
  have hna : IntKind.i64.wrap (0 - a) = -a := by rw [wrap_in (by have := ha.2; omega) (by have := ha.1; omega)]; omega
  have hm : hMid (-a) := ⟨by have := ha.2; omega, by have := ha.1; omega⟩
  have hd := (hdiv_mid hm hb).resolve_right id
  have hc : ((-4000000000000000000 ≤ -a ∧ -a ≤ 4000000000000000000) ∧ 0 < b ∧ b ≤ 4000000000000000000) := ⟨hm, hb, hb2.2⟩
  simp (decide := true) (maxSteps := 4000000) only [go_sem, Nat.reduceAdd, Nat.reduceSub, Nat.reduceMul, Nat.reduceDiv, Nat.reduceMod, Nat.reduceLT, Nat.reduceLeDiff, Nat.reduceEqDiff, Nat.reduceBEq, Nat.reduceBNe, Nat.reduceGT, Int.reduceAdd, Int.reduceSub, Int.reduceMul, Int.reduceNeg, Int.reduceLT, Int.reduceLE, Int.reduceEq, Int.reduceNe, Int.reduceBEq, Int.reduceBNe, Int.reduceToNat, Int.reduceGT, Int.reduceGE, ↓reduceIte, decide_true, decide_false, Try.f42, hna, if_pos hc]
  rw [wrap_in (by have := hd.2; omega) (by have := hd.1; omega)]; omega
def hgUp : List TV → Option TV
  | [.int .i64 a, .int .i64 b] => if (-4000000000000000000 ≤ a ∧ a ≤ 4000000000000000000) ∧ 0 < b ∧ b ≤ 4000000000000000000 then some (.int .i64 (-((-a) / b))) else none
  | _ => none
theorem hgUp_ok : ∀ xs r, hgUp xs = some r → PCalls Try.prog 42 xs r := by
  intro xs r h
  unfold hgUp at h
  split at h
  · split at h
    · rename_i hc; cases h; exact hUp_c _ _ hc.1 hc.2.1 ⟨by omega, hc.2.2⟩
    · cases h
  · cases h
noncomputable def spH8 : Pm.Spec := spH7.one 42 hgUp
theorem spH8_ok : SpecOk Try.prog spH8 := Spec.one_ok hgUp_ok spH7_ok
attribute [go_sem] hgUp
@[go_sem] theorem spH8_p (f : FuncId) (xs : List TV) : spH8.p f xs = Pm.Spec.p (spH7.one 42 hgUp) f xs := rfl
@[go_sem] theorem spH8_h (f : FuncId) (ps : List PV) (hl : List PO) : spH8.h f ps hl = Pm.Spec.h (spH7.one 42 hgUp) f ps hl := rfl
@[go_sem] theorem spH8_y (Y : Pm.YS) (f : FuncId) (ps : List PV) (hl : List PO) : spH8.y Y f ps hl = Pm.Spec.y (spH7.one 42 hgUp) Y f ps hl := rfl
@[go_sem] theorem spH8_fz (f : FuncId) : spH8.fz f = Pm.Spec.fz (spH7.one 42 hgUp) f := rfl
@[go_sem] theorem spH8_fr (f : FuncId) : spH8.fr f = Pm.Spec.fr (spH7.one 42 hgUp) f := rfl
@[go_sem] theorem spH8_yf (f : FuncId) : spH8.yf f = Pm.Spec.yf (spH7.one 42 hgUp) f := rfl
@[go_sem] theorem spH8_mu (t : TypeId) : spH8.mu t = Pm.Spec.mu (spH7.one 42 hgUp) t := rfl
@[go_sem] theorem spH8_nf (t : TypeId) : spH8.nf t = Pm.Spec.nf (spH7.one 42 hgUp) t := rfl
theorem hChosen_c (lo hi n : Int) (h1 : In64 lo) (h2 : In64 hi) : PCalls Try.prog 25 [.int .i64 lo, .int .i64 hi, .int .i64 n] (.int .i64 (chosen lo hi n)) := by
  refine pcalls_by Try.mixes spH8_ok (fn := Try.f25) Try.func25 rfl (by kernel_rfl) (by show 3 ≤ _; decide) ?_
  obtain ⟨a1, a2⟩ := h1
  obtain ⟨b1, b2⟩ := h2
  unfold chosen
  by_cases hge : lo ≥ hi
  · simp (decide := true) (maxSteps := 4000000) only [go_sem, Nat.reduceAdd, Nat.reduceSub, Nat.reduceMul, Nat.reduceDiv, Nat.reduceMod, Nat.reduceLT, Nat.reduceLeDiff, Nat.reduceEqDiff, Nat.reduceBEq, Nat.reduceBNe, Nat.reduceGT, Int.reduceAdd, Int.reduceSub, Int.reduceMul, Int.reduceNeg, Int.reduceLT, Int.reduceLE, Int.reduceEq, Int.reduceNe, Int.reduceBEq, Int.reduceBNe, Int.reduceToNat, Int.reduceGT, Int.reduceGE, ↓reduceIte, decide_true, decide_false, Try.f25, hge]
  · by_cases hbig : 9223372036854775807 < hi - lo + 1
    · have e : IntKind.i64.wrap (IntKind.i64.wrap (hi - lo) + 1) < 1 := by simp only [IntKind.wrap_i64]; omega
      simp (decide := true) (maxSteps := 4000000) only [go_sem, Nat.reduceAdd, Nat.reduceSub, Nat.reduceMul, Nat.reduceDiv, Nat.reduceMod, Nat.reduceLT, Nat.reduceLeDiff, Nat.reduceEqDiff, Nat.reduceBEq, Nat.reduceBNe, Nat.reduceGT, Int.reduceAdd, Int.reduceSub, Int.reduceMul, Int.reduceNeg, Int.reduceLT, Int.reduceLE, Int.reduceEq, Int.reduceNe, Int.reduceBEq, Int.reduceBNe, Int.reduceToNat, Int.reduceGT, Int.reduceGE, ↓reduceIte, decide_true, decide_false, Try.f25, hge, e, hbig]
    · have e : IntKind.i64.wrap (IntKind.i64.wrap (hi - lo) + 1) = hi - lo + 1 := by rw [wrap_in (n := hi - lo) (by omega) (by omega), wrap_in (by omega) (by omega)]
      have e2 : ¬ hi - lo + 1 < 1 := by omega
      have e3 : 0 < hi - lo + 1 ∧ hi - lo + 1 ≤ 9223372036854775807 := by omega
      have m1 := Int.emod_nonneg n (show hi - lo + 1 ≠ 0 by omega)
      have m2 := Int.emod_lt_of_pos n (show 0 < hi - lo + 1 by omega)
      simp (decide := true) (maxSteps := 4000000) only [go_sem, Nat.reduceAdd, Nat.reduceSub, Nat.reduceMul, Nat.reduceDiv, Nat.reduceMod, Nat.reduceLT, Nat.reduceLeDiff, Nat.reduceEqDiff, Nat.reduceBEq, Nat.reduceBNe, Nat.reduceGT, Int.reduceAdd, Int.reduceSub, Int.reduceMul, Int.reduceNeg, Int.reduceLT, Int.reduceLE, Int.reduceEq, Int.reduceNe, Int.reduceBEq, Int.reduceBNe, Int.reduceToNat, Int.reduceGT, Int.reduceGE, ↓reduceIte, decide_true, decide_false, Try.f25, hge, hbig, e, e2, if_pos e3]
      rw [wrap_in (by omega) (by omega)]
def hgChosen : List TV → Option TV
  | [.int .i64 a, .int .i64 b, .int .i64 n] => if (-9223372036854775808 ≤ a ∧ a ≤ 9223372036854775807) ∧ -9223372036854775808 ≤ b ∧ b ≤ 9223372036854775807 then some (.int .i64 (chosen a b n)) else none
  | _ => none
theorem hgChosen_ok : ∀ xs r, hgChosen xs = some r → PCalls Try.prog 25 xs r := by
  intro xs r h
  unfold hgChosen at h
  split at h
  · split at h
    · rename_i hc; cases h; exact hChosen_c _ _ _ hc.1 hc.2
    · cases h
  · cases h
noncomputable def spH9 : Pm.Spec := spH8.one 25 hgChosen
theorem spH9_ok : SpecOk Try.prog spH9 := Spec.one_ok hgChosen_ok spH8_ok
attribute [go_sem] hgChosen
@[go_sem] theorem spH9_p (f : FuncId) (xs : List TV) : spH9.p f xs = Pm.Spec.p (spH8.one 25 hgChosen) f xs := rfl
@[go_sem] theorem spH9_h (f : FuncId) (ps : List PV) (hl : List PO) : spH9.h f ps hl = Pm.Spec.h (spH8.one 25 hgChosen) f ps hl := rfl
@[go_sem] theorem spH9_y (Y : Pm.YS) (f : FuncId) (ps : List PV) (hl : List PO) : spH9.y Y f ps hl = Pm.Spec.y (spH8.one 25 hgChosen) Y f ps hl := rfl
@[go_sem] theorem spH9_fz (f : FuncId) : spH9.fz f = Pm.Spec.fz (spH8.one 25 hgChosen) f := rfl
@[go_sem] theorem spH9_fr (f : FuncId) : spH9.fr f = Pm.Spec.fr (spH8.one 25 hgChosen) f := rfl
@[go_sem] theorem spH9_yf (f : FuncId) : spH9.yf f = Pm.Spec.yf (spH8.one 25 hgChosen) f := rfl
@[go_sem] theorem spH9_mu (t : TypeId) : spH9.mu t = Pm.Spec.mu (spH8.one 25 hgChosen) t := rfl
@[go_sem] theorem spH9_nf (t : TypeId) : spH9.nf t = Pm.Spec.nf (spH8.one 25 hgChosen) t := rfl
noncomputable def spH10 : Pm.Spec := spH9
theorem spH10_ok : SpecOk Try.prog spH10 := spH9_ok
@[go_sem] theorem spH10_p (f : FuncId) (xs : List TV) : spH10.p f xs = Pm.Spec.p (spH9) f xs := rfl
@[go_sem] theorem spH10_h (f : FuncId) (ps : List PV) (hl : List PO) : spH10.h f ps hl = Pm.Spec.h (spH9) f ps hl := rfl
@[go_sem] theorem spH10_y (Y : Pm.YS) (f : FuncId) (ps : List PV) (hl : List PO) : spH10.y Y f ps hl = Pm.Spec.y (spH9) Y f ps hl := rfl
@[go_sem] theorem spH10_fz (f : FuncId) : spH10.fz f = Pm.Spec.fz (spH9) f := rfl
@[go_sem] theorem spH10_fr (f : FuncId) : spH10.fr f = Pm.Spec.fr (spH9) f := rfl
@[go_sem] theorem spH10_yf (f : FuncId) : spH10.yf f = Pm.Spec.yf (spH9) f := rfl
@[go_sem] theorem spH10_mu (t : TypeId) : spH10.mu t = Pm.Spec.mu (spH9) t := rfl
@[go_sem] theorem spH10_nf (t : TypeId) : spH10.nf t = Pm.Spec.nf (spH9) t := rfl
theorem hSame_c {a b : List Int} {s t : TV} (hs : IsRow ic s a) (ht : IsRow ic t b) (ha : a.length ≤ 9223372036854775806) : PCalls Try.prog 29 [s, t] (.bool (decide (a = b))) := by
  refine pcalls_by Try.mixes noSpec_ok (fn := Try.f29) Try.func29 rfl (by kernel_rfl) (by show 2 ≤ _; decide) ?_
  by_cases hl : a.length = b.length
  · by_cases h0 : a.length = 0
    · have ea : a = [] := List.length_eq_zero_iff.1 h0
      have eb : b = [] := List.length_eq_zero_iff.1 (by omega)
      subst ea; subst eb
      rcases hs with ⟨rfl, _⟩ | ⟨f1, rfl⟩ <;> rcases ht with ⟨rfl, _⟩ | ⟨f2, rfl⟩
      all_goals
        simp (decide := true) (maxSteps := 4000000) only [go_sem, Nat.reduceAdd, Nat.reduceSub, Nat.reduceMul, Nat.reduceDiv, Nat.reduceMod, Nat.reduceLT, Nat.reduceLeDiff, Nat.reduceEqDiff, Nat.reduceBEq, Nat.reduceBNe, Nat.reduceGT, Int.reduceAdd, Int.reduceSub, Int.reduceMul, Int.reduceNeg, Int.reduceLT, Int.reduceLE, Int.reduceEq, Int.reduceNe, Int.reduceBEq, Int.reduceBNe, Int.reduceToNat, Int.reduceGT, Int.reduceGE, ↓reduceIte, decide_true, decide_false, eq_self, Nat.mul_one, Nat.zero_mul, Nat.one_mul, Int.le_refl, Nat.le_refl, Int.cast_ofNat_Int, Try.f29, List.length_nil, bne_self_eq_false]
        refine pwpC_loopU (A := Unit) [0, 1] (fun _ => [(5, .t (.int .i64 0))]) (fun _ => []) (fun _ => 0) () (by decide) (fun _ => by rfl) ?_ fun Q1 hQ1 _ I1 hI1 => ?_
        · simp (decide := true) (maxSteps := 4000000) only [go_sem, Nat.reduceAdd, Nat.reduceSub, Nat.reduceMul, Nat.reduceDiv, Nat.reduceMod, Nat.reduceLT, Nat.reduceLeDiff, Nat.reduceEqDiff, Nat.reduceBEq, Nat.reduceBNe, Nat.reduceGT, Int.reduceAdd, Int.reduceSub, Int.reduceMul, Int.reduceNeg, Int.reduceLT, Int.reduceLE, Int.reduceEq, Int.reduceNe, Int.reduceBEq, Int.reduceBNe, Int.reduceToNat, Int.reduceGT, Int.reduceGE, ↓reduceIte, decide_true, decide_false, eq_self, Nat.mul_one, Nat.zero_mul, Nat.one_mul, Int.le_refl, Nat.le_refl, Int.cast_ofNat_Int]
        · simp (decide := true) (maxSteps := 4000000) only [go_sem, Nat.reduceAdd, Nat.reduceSub, Nat.reduceMul, Nat.reduceDiv, Nat.reduceMod, Nat.reduceLT, Nat.reduceLeDiff, Nat.reduceEqDiff, Nat.reduceBEq, Nat.reduceBNe, Nat.reduceGT, Int.reduceAdd, Int.reduceSub, Int.reduceMul, Int.reduceNeg, Int.reduceLT, Int.reduceLE, Int.reduceEq, Int.reduceNe, Int.reduceBEq, Int.reduceBNe, Int.reduceToNat, Int.reduceGT, Int.reduceGE, ↓reduceIte, decide_true, decide_false, eq_self, Nat.mul_one, Nat.zero_mul, Nat.one_mul, Int.le_refl, Nat.le_refl, Int.cast_ofNat_Int, List.length_nil]
          refine hQ1 _ _ ?_
          simp (decide := true) (maxSteps := 4000000) only [go_sem, Nat.reduceAdd, Nat.reduceSub, Nat.reduceMul, Nat.reduceDiv, Nat.reduceMod, Nat.reduceLT, Nat.reduceLeDiff, Nat.reduceEqDiff, Nat.reduceBEq, Nat.reduceBNe, Nat.reduceGT, Int.reduceAdd, Int.reduceSub, Int.reduceMul, Int.reduceNeg, Int.reduceLT, Int.reduceLE, Int.reduceEq, Int.reduceNe, Int.reduceBEq, Int.reduceBNe, Int.reduceToNat, Int.reduceGT, Int.reduceGE, ↓reduceIte, decide_true, decide_false, eq_self, Nat.mul_one, Nat.zero_mul, Nat.one_mul, Int.le_refl, Nat.le_refl, Int.cast_ofNat_Int]
    · obtain ⟨f1, rfl⟩ := hs.ne (by omega)
      obtain ⟨f2, rfl⟩ := ht.ne (by omega)
      rw [ic_ints, ic_ints]
      have hl' : ((a.length : Int) != (b.length : Int)) = false := bne_int_f (by omega)
      simp (decide := true) (maxSteps := 4000000) only [go_sem, Nat.reduceAdd, Nat.reduceSub, Nat.reduceMul, Nat.reduceDiv, Nat.reduceMod, Nat.reduceLT, Nat.reduceLeDiff, Nat.reduceEqDiff, Nat.reduceBEq, Nat.reduceBNe, Nat.reduceGT, Int.reduceAdd, Int.reduceSub, Int.reduceMul, Int.reduceNeg, Int.reduceLT, Int.reduceLE, Int.reduceEq, Int.reduceNe, Int.reduceBEq, Int.reduceBNe, Int.reduceToNat, Int.reduceGT, Int.reduceGE, ↓reduceIte, decide_true, decide_false, eq_self, Nat.mul_one, Nat.zero_mul, Nat.one_mul, Int.le_refl, Nat.le_refl, Int.cast_ofNat_Int, Try.f29, hl']
      refine pwpC_loopU (A := { k : Nat // a.take k = b.take k ∧ k ≤ a.length }) [0, 1] (fun k => [(5, .t (.int .i64 k.1))]) (fun k => []) (fun k => a.length - k.1) ⟨0, by simp⟩ (by decide) (fun _ => by rfl) ?_ fun Q1 hQ1 ⟨k, hk, hka⟩ I1 hI1 => ?_
      · simp (decide := true) (maxSteps := 4000000) only [go_sem, Nat.reduceAdd, Nat.reduceSub, Nat.reduceMul, Nat.reduceDiv, Nat.reduceMod, Nat.reduceLT, Nat.reduceLeDiff, Nat.reduceEqDiff, Nat.reduceBEq, Nat.reduceBNe, Nat.reduceGT, Int.reduceAdd, Int.reduceSub, Int.reduceMul, Int.reduceNeg, Int.reduceLT, Int.reduceLE, Int.reduceEq, Int.reduceNe, Int.reduceBEq, Int.reduceBNe, Int.reduceToNat, Int.reduceGT, Int.reduceGE, ↓reduceIte, decide_true, decide_false, eq_self, Nat.mul_one, Nat.zero_mul, Nat.one_mul, Int.le_refl, Nat.le_refl, Int.cast_ofNat_Int]
      · by_cases hlt : (k : Int) < a.length
        · have hltb : (k : Int) < b.length := by omega
          obtain ⟨x, hx⟩ := get_lt hlt
          obtain ⟨y, hy⟩ := get_lt hltb
          have d1 := ints_at hx
          have d2 := ints_at hy
          rw [Nat.mul_one] at d1 d2
          have hc1 : IntKind.i64.wrap (k + 1) = ((k + 1 : Nat) : Int) := by rw [wrap_in (by omega) (by omega)]; omega
          by_cases hxy : x = y
          · subst hxy
            simp (decide := true) (maxSteps := 4000000) only [go_sem, Nat.reduceAdd, Nat.reduceSub, Nat.reduceMul, Nat.reduceDiv, Nat.reduceMod, Nat.reduceLT, Nat.reduceLeDiff, Nat.reduceEqDiff, Nat.reduceBEq, Nat.reduceBNe, Nat.reduceGT, Int.reduceAdd, Int.reduceSub, Int.reduceMul, Int.reduceNeg, Int.reduceLT, Int.reduceLE, Int.reduceEq, Int.reduceNe, Int.reduceBEq, Int.reduceBNe, Int.reduceToNat, Int.reduceGT, Int.reduceGE, ↓reduceIte, decide_true, decide_false, eq_self, Nat.mul_one, Nat.zero_mul, Nat.one_mul, Int.le_refl, Nat.le_refl, Int.cast_ofNat_Int, hlt, hltb, d1, d2, bne_self_eq_false]
            refine hI1 _ ⟨k + 1, by rw [take_snoc hx, take_snoc hy, hk], by omega⟩ (by simp only; omega) ?_
            simp (decide := true) (maxSteps := 4000000) only [go_sem, Nat.reduceAdd, Nat.reduceSub, Nat.reduceMul, Nat.reduceDiv, Nat.reduceMod, Nat.reduceLT, Nat.reduceLeDiff, Nat.reduceEqDiff, Nat.reduceBEq, Nat.reduceBNe, Nat.reduceGT, Int.reduceAdd, Int.reduceSub, Int.reduceMul, Int.reduceNeg, Int.reduceLT, Int.reduceLE, Int.reduceEq, Int.reduceNe, Int.reduceBEq, Int.reduceBNe, Int.reduceToNat, Int.reduceGT, Int.reduceGE, ↓reduceIte, decide_true, decide_false, eq_self, Nat.mul_one, Nat.zero_mul, Nat.one_mul, Int.le_refl, Nat.le_refl, Int.cast_ofNat_Int, hc1]
          · have hb : (x != y) = true := bne_int_t hxy
            simp (decide := true) (maxSteps := 4000000) only [go_sem, Nat.reduceAdd, Nat.reduceSub, Nat.reduceMul, Nat.reduceDiv, Nat.reduceMod, Nat.reduceLT, Nat.reduceLeDiff, Nat.reduceEqDiff, Nat.reduceBEq, Nat.reduceBNe, Nat.reduceGT, Int.reduceAdd, Int.reduceSub, Int.reduceMul, Int.reduceNeg, Int.reduceLT, Int.reduceLE, Int.reduceEq, Int.reduceNe, Int.reduceBEq, Int.reduceBNe, Int.reduceToNat, Int.reduceGT, Int.reduceGE, ↓reduceIte, decide_true, decide_false, eq_self, Nat.mul_one, Nat.zero_mul, Nat.one_mul, Int.le_refl, Nat.le_refl, Int.cast_ofNat_Int, hlt, hltb, d1, d2, hb]
            refine hQ1 _ _ ?_
            have : decide (a = b) = false := by
              rw [decide_eq_false_iff_not]
              rintro rfl
              rw [hx] at hy; cases hy; exact hxy rfl
            simp (decide := true) (maxSteps := 4000000) only [go_sem, Nat.reduceAdd, Nat.reduceSub, Nat.reduceMul, Nat.reduceDiv, Nat.reduceMod, Nat.reduceLT, Nat.reduceLeDiff, Nat.reduceEqDiff, Nat.reduceBEq, Nat.reduceBNe, Nat.reduceGT, Int.reduceAdd, Int.reduceSub, Int.reduceMul, Int.reduceNeg, Int.reduceLT, Int.reduceLE, Int.reduceEq, Int.reduceNe, Int.reduceBEq, Int.reduceBNe, Int.reduceToNat, Int.reduceGT, Int.reduceGE, ↓reduceIte, decide_true, decide_false, eq_self, Nat.mul_one, Nat.zero_mul, Nat.one_mul, Int.le_refl, Nat.le_refl, Int.cast_ofNat_Int, this]
        · have hke : k = a.length := by omega
          subst hke
          simp (decide := true) (maxSteps := 4000000) only [go_sem, Nat.reduceAdd, Nat.reduceSub, Nat.reduceMul, Nat.reduceDiv, Nat.reduceMod, Nat.reduceLT, Nat.reduceLeDiff, Nat.reduceEqDiff, Nat.reduceBEq, Nat.reduceBNe, Nat.reduceGT, Int.reduceAdd, Int.reduceSub, Int.reduceMul, Int.reduceNeg, Int.reduceLT, Int.reduceLE, Int.reduceEq, Int.reduceNe, Int.reduceBEq, Int.reduceBNe, Int.reduceToNat, Int.reduceGT, Int.reduceGE, ↓reduceIte, decide_true, decide_false, eq_self, Nat.mul_one, Nat.zero_mul, Nat.one_mul, Int.le_refl, Nat.le_refl, Int.cast_ofNat_Int, hlt]
          refine hQ1 _ _ ?_
          have : decide (a = b) = true := by
            rw [decide_eq_true_eq]
            rwa [List.take_length, List.take_of_length_le (by omega)] at hk
          simp (decide := true) (maxSteps := 4000000) only [go_sem, Nat.reduceAdd, Nat.reduceSub, Nat.reduceMul, Nat.reduceDiv, Nat.reduceMod, Nat.reduceLT, Nat.reduceLeDiff, Nat.reduceEqDiff, Nat.reduceBEq, Nat.reduceBNe, Nat.reduceGT, Int.reduceAdd, Int.reduceSub, Int.reduceMul, Int.reduceNeg, Int.reduceLT, Int.reduceLE, Int.reduceEq, Int.reduceNe, Int.reduceBEq, Int.reduceBNe, Int.reduceToNat, Int.reduceGT, Int.reduceGE, ↓reduceIte, decide_true, decide_false, eq_self, Nat.mul_one, Nat.zero_mul, Nat.one_mul, Int.le_refl, Nat.le_refl, Int.cast_ofNat_Int, this]
  · have hl' : ((a.length : Int) != (b.length : Int)) = true := bne_int_t (by omega)
    have hd : decide (a = b) = false := by
      rw [decide_eq_false_iff_not]
      rintro rfl; exact hl rfl
    rcases hs with ⟨rfl, rfl⟩ | ⟨f1, rfl⟩ <;> rcases ht with ⟨rfl, rfl⟩ | ⟨f2, rfl⟩
    · exact absurd rfl hl
    all_goals
      try simp only [List.length_nil, Int.cast_ofNat_Int] at hl'
      simp (decide := true) (maxSteps := 4000000) only [go_sem, Nat.reduceAdd, Nat.reduceSub, Nat.reduceMul, Nat.reduceDiv, Nat.reduceMod, Nat.reduceLT, Nat.reduceLeDiff, Nat.reduceEqDiff, Nat.reduceBEq, Nat.reduceBNe, Nat.reduceGT, Int.reduceAdd, Int.reduceSub, Int.reduceMul, Int.reduceNeg, Int.reduceLT, Int.reduceLE, Int.reduceEq, Int.reduceNe, Int.reduceBEq, Int.reduceBNe, Int.reduceToNat, Int.reduceGT, Int.reduceGE, ↓reduceIte, decide_true, decide_false, eq_self, Nat.mul_one, Nat.zero_mul, Nat.one_mul, Int.le_refl, Nat.le_refl, Int.cast_ofNat_Int, Try.f29, hl', hd]
noncomputable def hgSame : List TV → Option TV
  | [s, t] => match rowL unI s, rowL unI t with
    | some a, some b => if a.length ≤ 9223372036854775806 then some (.bool (decide (a = b))) else none
    | _, _ => none
  | _ => none
theorem hgSame_ok : ∀ xs r, hgSame xs = some r → PCalls Try.prog 29 xs r := by
  intro xs r h
  unfold hgSame at h
  split at h
  · split at h
    · rename_i a b ha hb
      split at h
      · rename_i hc; cases h
        exact hSame_c (rowL_some (un := unI) unI_nil (@unI_some) ha) (rowL_some (un := unI) unI_nil (@unI_some) hb) hc
      · cases h
    · cases h
  · cases h
noncomputable def spH11 : Pm.Spec := spH10.one 29 hgSame
theorem spH11_ok : SpecOk Try.prog spH11 := Spec.one_ok hgSame_ok spH10_ok
attribute [go_sem] hgSame
@[go_sem] theorem spH11_p (f : FuncId) (xs : List TV) : spH11.p f xs = Pm.Spec.p (spH10.one 29 hgSame) f xs := rfl
@[go_sem] theorem spH11_h (f : FuncId) (ps : List PV) (hl : List PO) : spH11.h f ps hl = Pm.Spec.h (spH10.one 29 hgSame) f ps hl := rfl
@[go_sem] theorem spH11_y (Y : Pm.YS) (f : FuncId) (ps : List PV) (hl : List PO) : spH11.y Y f ps hl = Pm.Spec.y (spH10.one 29 hgSame) Y f ps hl := rfl
@[go_sem] theorem spH11_fz (f : FuncId) : spH11.fz f = Pm.Spec.fz (spH10.one 29 hgSame) f := rfl
@[go_sem] theorem spH11_fr (f : FuncId) : spH11.fr f = Pm.Spec.fr (spH10.one 29 hgSame) f := rfl
@[go_sem] theorem spH11_yf (f : FuncId) : spH11.yf f = Pm.Spec.yf (spH10.one 29 hgSame) f := rfl
@[go_sem] theorem spH11_mu (t : TypeId) : spH11.mu t = Pm.Spec.mu (spH10.one 29 hgSame) t := rfl
@[go_sem] theorem spH11_nf (t : TypeId) : spH11.nf t = Pm.Spec.nf (spH10.one 29 hgSame) t := rfl
theorem hSameSpans_c {a b : List Span} {s t : TV} (hs : IsRow Span.cs s a) (ht : IsRow Span.cs t b) (ha : a.length ≤ 9223372036854775806) : PCalls Try.prog 18 [s, t] (.bool (decide (a = b))) := by
  refine pcalls_by Try.mixes noSpec_ok (fn := Try.f18) Try.func18 rfl (by kernel_rfl) (by show 2 ≤ _; decide) ?_
  by_cases hl : a.length = b.length
  · by_cases h0 : a.length = 0
    · have ea : a = [] := List.length_eq_zero_iff.1 h0
      have eb : b = [] := List.length_eq_zero_iff.1 (by omega)
      subst ea; subst eb
      rcases hs with ⟨rfl, _⟩ | ⟨f1, rfl⟩ <;> rcases ht with ⟨rfl, _⟩ | ⟨f2, rfl⟩
      all_goals
        simp (decide := true) (maxSteps := 4000000) only [go_sem, Nat.reduceAdd, Nat.reduceSub, Nat.reduceMul, Nat.reduceDiv, Nat.reduceMod, Nat.reduceLT, Nat.reduceLeDiff, Nat.reduceEqDiff, Nat.reduceBEq, Nat.reduceBNe, Nat.reduceGT, Int.reduceAdd, Int.reduceSub, Int.reduceMul, Int.reduceNeg, Int.reduceLT, Int.reduceLE, Int.reduceEq, Int.reduceNe, Int.reduceBEq, Int.reduceBNe, Int.reduceToNat, Int.reduceGT, Int.reduceGE, ↓reduceIte, decide_true, decide_false, eq_self, Nat.mul_one, Nat.zero_mul, Nat.one_mul, Int.le_refl, Nat.le_refl, Int.cast_ofNat_Int, Try.f18, List.length_nil, bne_self_eq_false]
        refine pwpC_loopU (A := Unit) [0, 1] (fun _ => [(5, .t (.int .i64 0))]) (fun _ => []) (fun _ => 0) () (by decide) (fun _ => by rfl) ?_ fun Q1 hQ1 _ I1 hI1 => ?_
        · simp (decide := true) (maxSteps := 4000000) only [go_sem, Nat.reduceAdd, Nat.reduceSub, Nat.reduceMul, Nat.reduceDiv, Nat.reduceMod, Nat.reduceLT, Nat.reduceLeDiff, Nat.reduceEqDiff, Nat.reduceBEq, Nat.reduceBNe, Nat.reduceGT, Int.reduceAdd, Int.reduceSub, Int.reduceMul, Int.reduceNeg, Int.reduceLT, Int.reduceLE, Int.reduceEq, Int.reduceNe, Int.reduceBEq, Int.reduceBNe, Int.reduceToNat, Int.reduceGT, Int.reduceGE, ↓reduceIte, decide_true, decide_false, eq_self, Nat.mul_one, Nat.zero_mul, Nat.one_mul, Int.le_refl, Nat.le_refl, Int.cast_ofNat_Int]
        · simp (decide := true) (maxSteps := 4000000) only [go_sem, Nat.reduceAdd, Nat.reduceSub, Nat.reduceMul, Nat.reduceDiv, Nat.reduceMod, Nat.reduceLT, Nat.reduceLeDiff, Nat.reduceEqDiff, Nat.reduceBEq, Nat.reduceBNe, Nat.reduceGT, Int.reduceAdd, Int.reduceSub, Int.reduceMul, Int.reduceNeg, Int.reduceLT, Int.reduceLE, Int.reduceEq, Int.reduceNe, Int.reduceBEq, Int.reduceBNe, Int.reduceToNat, Int.reduceGT, Int.reduceGE, ↓reduceIte, decide_true, decide_false, eq_self, Nat.mul_one, Nat.zero_mul, Nat.one_mul, Int.le_refl, Nat.le_refl, Int.cast_ofNat_Int, List.length_nil]
          refine hQ1 _ _ ?_
          simp (decide := true) (maxSteps := 4000000) only [go_sem, Nat.reduceAdd, Nat.reduceSub, Nat.reduceMul, Nat.reduceDiv, Nat.reduceMod, Nat.reduceLT, Nat.reduceLeDiff, Nat.reduceEqDiff, Nat.reduceBEq, Nat.reduceBNe, Nat.reduceGT, Int.reduceAdd, Int.reduceSub, Int.reduceMul, Int.reduceNeg, Int.reduceLT, Int.reduceLE, Int.reduceEq, Int.reduceNe, Int.reduceBEq, Int.reduceBNe, Int.reduceToNat, Int.reduceGT, Int.reduceGE, ↓reduceIte, decide_true, decide_false, eq_self, Nat.mul_one, Nat.zero_mul, Nat.one_mul, Int.le_refl, Nat.le_refl, Int.cast_ofNat_Int]
    · obtain ⟨f1, rfl⟩ := hs.ne (by omega)
      obtain ⟨f2, rfl⟩ := ht.ne (by omega)
      have hl' : ((a.length : Int) != (b.length : Int)) = false := bne_int_f (by omega)
      simp (decide := true) (maxSteps := 4000000) only [go_sem, Nat.reduceAdd, Nat.reduceSub, Nat.reduceMul, Nat.reduceDiv, Nat.reduceMod, Nat.reduceLT, Nat.reduceLeDiff, Nat.reduceEqDiff, Nat.reduceBEq, Nat.reduceBNe, Nat.reduceGT, Int.reduceAdd, Int.reduceSub, Int.reduceMul, Int.reduceNeg, Int.reduceLT, Int.reduceLE, Int.reduceEq, Int.reduceNe, Int.reduceBEq, Int.reduceBNe, Int.reduceToNat, Int.reduceGT, Int.reduceGE, ↓reduceIte, decide_true, decide_false, eq_self, Nat.mul_one, Nat.zero_mul, Nat.one_mul, Int.le_refl, Nat.le_refl, Int.cast_ofNat_Int, Try.f18, hl']
      refine pwpC_loopU (A := { k : Nat // a.take k = b.take k ∧ k ≤ a.length }) [0, 1] (fun k => [(5, .t (.int .i64 k.1))]) (fun _ => []) (fun k => a.length - k.1) ⟨0, by simp⟩ (by decide) (fun _ => by rfl) ?_ fun Q1 hQ1 ⟨k, hk, hka⟩ I1 hI1 => ?_
      · simp (decide := true) (maxSteps := 4000000) only [go_sem, Nat.reduceAdd, Nat.reduceSub, Nat.reduceMul, Nat.reduceDiv, Nat.reduceMod, Nat.reduceLT, Nat.reduceLeDiff, Nat.reduceEqDiff, Nat.reduceBEq, Nat.reduceBNe, Nat.reduceGT, Int.reduceAdd, Int.reduceSub, Int.reduceMul, Int.reduceNeg, Int.reduceLT, Int.reduceLE, Int.reduceEq, Int.reduceNe, Int.reduceBEq, Int.reduceBNe, Int.reduceToNat, Int.reduceGT, Int.reduceGE, ↓reduceIte, decide_true, decide_false, eq_self, Nat.mul_one, Nat.zero_mul, Nat.one_mul, Int.le_refl, Nat.le_refl, Int.cast_ofNat_Int]
      · by_cases hlt : (k : Int) < a.length
        · have hltb : (k : Int) < b.length := by omega
          obtain ⟨x, hx⟩ := get_lt hlt
          obtain ⟨y, hy⟩ := get_lt hltb
          have d1 := flat_at Span.cs (n := 2) (fun _ => rfl) hx
          have d2 := flat_at Span.cs (n := 2) (fun _ => rfl) hy
          have hc1 : IntKind.i64.wrap (k + 1) = ((k + 1 : Nat) : Int) := by rw [wrap_in (by omega) (by omega)]; omega
          obtain ⟨x0, x1⟩ := x
          obtain ⟨y0, y1⟩ := y
          by_cases hxy : x0 = y0 ∧ x1 = y1
          · obtain ⟨rfl, rfl⟩ := hxy
            simp (decide := true) (maxSteps := 4000000) only [go_sem, Nat.reduceAdd, Nat.reduceSub, Nat.reduceMul, Nat.reduceDiv, Nat.reduceMod, Nat.reduceLT, Nat.reduceLeDiff, Nat.reduceEqDiff, Nat.reduceBEq, Nat.reduceBNe, Nat.reduceGT, Int.reduceAdd, Int.reduceSub, Int.reduceMul, Int.reduceNeg, Int.reduceLT, Int.reduceLE, Int.reduceEq, Int.reduceNe, Int.reduceBEq, Int.reduceBNe, Int.reduceToNat, Int.reduceGT, Int.reduceGE, ↓reduceIte, decide_true, decide_false, eq_self, Nat.mul_one, Nat.zero_mul, Nat.one_mul, Int.le_refl, Nat.le_refl, Int.cast_ofNat_Int, hlt, hltb, d1, d2, Span.cs, beq_self_eq_true]
            refine hI1 _ ⟨k + 1, by rw [take_snoc hx, take_snoc hy, hk], by omega⟩ (by simp only; omega) ?_
            simp (decide := true) (maxSteps := 4000000) only [go_sem, Nat.reduceAdd, Nat.reduceSub, Nat.reduceMul, Nat.reduceDiv, Nat.reduceMod, Nat.reduceLT, Nat.reduceLeDiff, Nat.reduceEqDiff, Nat.reduceBEq, Nat.reduceBNe, Nat.reduceGT, Int.reduceAdd, Int.reduceSub, Int.reduceMul, Int.reduceNeg, Int.reduceLT, Int.reduceLE, Int.reduceEq, Int.reduceNe, Int.reduceBEq, Int.reduceBNe, Int.reduceToNat, Int.reduceGT, Int.reduceGE, ↓reduceIte, decide_true, decide_false, eq_self, Nat.mul_one, Nat.zero_mul, Nat.one_mul, Int.le_refl, Nat.le_refl, Int.cast_ofNat_Int, hc1]
          · have hb : (x0 == y0 && x1 == y1) = false := by simpa using hxy
            simp (decide := true) (maxSteps := 4000000) only [go_sem, Nat.reduceAdd, Nat.reduceSub, Nat.reduceMul, Nat.reduceDiv, Nat.reduceMod, Nat.reduceLT, Nat.reduceLeDiff, Nat.reduceEqDiff, Nat.reduceBEq, Nat.reduceBNe, Nat.reduceGT, Int.reduceAdd, Int.reduceSub, Int.reduceMul, Int.reduceNeg, Int.reduceLT, Int.reduceLE, Int.reduceEq, Int.reduceNe, Int.reduceBEq, Int.reduceBNe, Int.reduceToNat, Int.reduceGT, Int.reduceGE, ↓reduceIte, decide_true, decide_false, eq_self, Nat.mul_one, Nat.zero_mul, Nat.one_mul, Int.le_refl, Nat.le_refl, Int.cast_ofNat_Int, hlt, hltb, d1, d2, Span.cs, hb]
            refine hQ1 _ _ ?_
            have : decide (a = b) = false := by
              rw [decide_eq_false_iff_not]
              rintro rfl
              rw [hx] at hy; cases hy; exact hxy ⟨rfl, rfl⟩
            simp (decide := true) (maxSteps := 4000000) only [go_sem, Nat.reduceAdd, Nat.reduceSub, Nat.reduceMul, Nat.reduceDiv, Nat.reduceMod, Nat.reduceLT, Nat.reduceLeDiff, Nat.reduceEqDiff, Nat.reduceBEq, Nat.reduceBNe, Nat.reduceGT, Int.reduceAdd, Int.reduceSub, Int.reduceMul, Int.reduceNeg, Int.reduceLT, Int.reduceLE, Int.reduceEq, Int.reduceNe, Int.reduceBEq, Int.reduceBNe, Int.reduceToNat, Int.reduceGT, Int.reduceGE, ↓reduceIte, decide_true, decide_false, eq_self, Nat.mul_one, Nat.zero_mul, Nat.one_mul, Int.le_refl, Nat.le_refl, Int.cast_ofNat_Int, this]
        · have hke : k = a.length := by omega
          subst hke
          simp (decide := true) (maxSteps := 4000000) only [go_sem, Nat.reduceAdd, Nat.reduceSub, Nat.reduceMul, Nat.reduceDiv, Nat.reduceMod, Nat.reduceLT, Nat.reduceLeDiff, Nat.reduceEqDiff, Nat.reduceBEq, Nat.reduceBNe, Nat.reduceGT, Int.reduceAdd, Int.reduceSub, Int.reduceMul, Int.reduceNeg, Int.reduceLT, Int.reduceLE, Int.reduceEq, Int.reduceNe, Int.reduceBEq, Int.reduceBNe, Int.reduceToNat, Int.reduceGT, Int.reduceGE, ↓reduceIte, decide_true, decide_false, eq_self, Nat.mul_one, Nat.zero_mul, Nat.one_mul, Int.le_refl, Nat.le_refl, Int.cast_ofNat_Int, hlt]
          refine hQ1 _ _ ?_
          have : decide (a = b) = true := by
            rw [decide_eq_true_eq]
            rwa [List.take_length, List.take_of_length_le (by omega)] at hk
          simp (decide := true) (maxSteps := 4000000) only [go_sem, Nat.reduceAdd, Nat.reduceSub, Nat.reduceMul, Nat.reduceDiv, Nat.reduceMod, Nat.reduceLT, Nat.reduceLeDiff, Nat.reduceEqDiff, Nat.reduceBEq, Nat.reduceBNe, Nat.reduceGT, Int.reduceAdd, Int.reduceSub, Int.reduceMul, Int.reduceNeg, Int.reduceLT, Int.reduceLE, Int.reduceEq, Int.reduceNe, Int.reduceBEq, Int.reduceBNe, Int.reduceToNat, Int.reduceGT, Int.reduceGE, ↓reduceIte, decide_true, decide_false, eq_self, Nat.mul_one, Nat.zero_mul, Nat.one_mul, Int.le_refl, Nat.le_refl, Int.cast_ofNat_Int, this]
  · have hl' : ((a.length : Int) != (b.length : Int)) = true := bne_int_t (by omega)
    have hd : decide (a = b) = false := by
      rw [decide_eq_false_iff_not]
      rintro rfl; exact hl rfl
    rcases hs with ⟨rfl, rfl⟩ | ⟨f1, rfl⟩ <;> rcases ht with ⟨rfl, rfl⟩ | ⟨f2, rfl⟩
    · exact absurd rfl hl
    all_goals
      try simp only [List.length_nil, Int.cast_ofNat_Int] at hl'
      simp (decide := true) (maxSteps := 4000000) only [go_sem, Nat.reduceAdd, Nat.reduceSub, Nat.reduceMul, Nat.reduceDiv, Nat.reduceMod, Nat.reduceLT, Nat.reduceLeDiff, Nat.reduceEqDiff, Nat.reduceBEq, Nat.reduceBNe, Nat.reduceGT, Int.reduceAdd, Int.reduceSub, Int.reduceMul, Int.reduceNeg, Int.reduceLT, Int.reduceLE, Int.reduceEq, Int.reduceNe, Int.reduceBEq, Int.reduceBNe, Int.reduceToNat, Int.reduceGT, Int.reduceGE, ↓reduceIte, decide_true, decide_false, eq_self, Nat.mul_one, Nat.zero_mul, Nat.one_mul, Int.le_refl, Nat.le_refl, Int.cast_ofNat_Int, Try.f18, hl', hd]
noncomputable def hgSameSpans : List TV → Option TV
  | [s, t] => match rowL unS s, rowL unS t with
    | some a, some b => if a.length ≤ 9223372036854775806 then some (.bool (decide (a = b))) else none
    | _, _ => none
  | _ => none
theorem hgSameSpans_ok : ∀ xs r, hgSameSpans xs = some r → PCalls Try.prog 18 xs r := by
  intro xs r h
  unfold hgSameSpans at h
  split at h
  · split at h
    · rename_i a b ha hb
      split at h
      · rename_i hc; cases h
        exact hSameSpans_c (rowL_some (un := unS) unS_nil (@unS_some) ha) (rowL_some (un := unS) unS_nil (@unS_some) hb) hc
      · cases h
    · cases h
  · cases h
noncomputable def spH12 : Pm.Spec := spH11.one 18 hgSameSpans
theorem spH12_ok : SpecOk Try.prog spH12 := Spec.one_ok hgSameSpans_ok spH11_ok
attribute [go_sem] hgSameSpans
@[go_sem] theorem spH12_p (f : FuncId) (xs : List TV) : spH12.p f xs = Pm.Spec.p (spH11.one 18 hgSameSpans) f xs := rfl
@[go_sem] theorem spH12_h (f : FuncId) (ps : List PV) (hl : List PO) : spH12.h f ps hl = Pm.Spec.h (spH11.one 18 hgSameSpans) f ps hl := rfl
@[go_sem] theorem spH12_y (Y : Pm.YS) (f : FuncId) (ps : List PV) (hl : List PO) : spH12.y Y f ps hl = Pm.Spec.y (spH11.one 18 hgSameSpans) Y f ps hl := rfl
@[go_sem] theorem spH12_fz (f : FuncId) : spH12.fz f = Pm.Spec.fz (spH11.one 18 hgSameSpans) f := rfl
@[go_sem] theorem spH12_fr (f : FuncId) : spH12.fr f = Pm.Spec.fr (spH11.one 18 hgSameSpans) f := rfl
@[go_sem] theorem spH12_yf (f : FuncId) : spH12.yf f = Pm.Spec.yf (spH11.one 18 hgSameSpans) f := rfl
@[go_sem] theorem spH12_mu (t : TypeId) : spH12.mu t = Pm.Spec.mu (spH11.one 18 hgSameSpans) t := rfl
@[go_sem] theorem spH12_nf (t : TypeId) : spH12.nf t = Pm.Spec.nf (spH11.one 18 hgSameSpans) t := rfl
theorem hPick_c {l : List Int} {s : TV} (hs : IsRow ic s l) (hl : l.length ≤ 9223372036854775806) (n : Int) : PCalls Try.prog 26 [s, .int .i64 n] (.int .i64 (pickI l n)) := by
  have hI := rowI_is hs
  refine pcalls_by Try.mixes spH12_ok (fn := Try.f26) Try.func26 rfl (by kernel_rfl) (by show 2 ≤ _; decide) ?_
  unfold pickI
  by_cases h0 : l.length = 0
  · have h0' : ((l.length : Int) == 0) = true := beq_int_t (by omega)
    rcases hs with ⟨rfl, rfl⟩ | ⟨full, rfl⟩ <;> simp (decide := true) (maxSteps := 4000000) only [go_sem, Nat.reduceAdd, Nat.reduceSub, Nat.reduceMul, Nat.reduceDiv, Nat.reduceMod, Nat.reduceLT, Nat.reduceLeDiff, Nat.reduceEqDiff, Nat.reduceBEq, Nat.reduceBNe, Nat.reduceGT, Int.reduceAdd, Int.reduceSub, Int.reduceMul, Int.reduceNeg, Int.reduceLT, Int.reduceLE, Int.reduceEq, Int.reduceNe, Int.reduceBEq, Int.reduceBNe, Int.reduceToNat, Int.reduceGT, Int.reduceGE, ↓reduceIte, decide_true, decide_false, eq_self, Nat.mul_one, Nat.zero_mul, Nat.one_mul, Int.le_refl, Nat.le_refl, Int.cast_ofNat_Int, Try.f26, h0, h0', List.length_nil]
  · have h0' : ((l.length : Int) == 0) = false := beq_int_f (by omega)
    obtain ⟨full, rfl⟩ := hs.ne (by omega)
    have hc : 0 < (l.length : Int) ∧ (l.length : Int) ≤ 9223372036854775807 := by omega
    have m1 := Int.emod_nonneg n (show (l.length : Int) ≠ 0 by omega)
    have m2 := Int.emod_lt_of_pos n (show 0 < (l.length : Int) by omega)
    obtain ⟨k, hk⟩ := Int.eq_ofNat_of_zero_le m1
    rw [hk] at m2
    obtain ⟨x, hx⟩ := get_lt m2
    have d := flat_at ic (n := 1) (fun _ => rfl) hx
    rw [Nat.mul_one] at d
    simp (decide := true) (maxSteps := 4000000) only [go_sem, Nat.reduceAdd, Nat.reduceSub, Nat.reduceMul, Nat.reduceDiv, Nat.reduceMod, Nat.reduceLT, Nat.reduceLeDiff, Nat.reduceEqDiff, Nat.reduceBEq, Nat.reduceBNe, Nat.reduceGT, Int.reduceAdd, Int.reduceSub, Int.reduceMul, Int.reduceNeg, Int.reduceLT, Int.reduceLE, Int.reduceEq, Int.reduceNe, Int.reduceBEq, Int.reduceBNe, Int.reduceToNat, Int.reduceGT, Int.reduceGE, ↓reduceIte, decide_true, decide_false, eq_self, Nat.mul_one, Nat.zero_mul, Nat.one_mul, Int.le_refl, Nat.le_refl, Int.cast_ofNat_Int, Try.f26, h0, h0', hc, hk, m2, d, ic, Int.toNat_natCast, nth_eq hx]
noncomputable def hgPick : List TV → Option TV
  | [s, .int .i64 n] => match rowL unI s with
    | some l => if l.length ≤ 9223372036854775806 then some (.int .i64 (pickI l n)) else none
    | none => none
  | _ => none
theorem hgPick_ok : ∀ xs r, hgPick xs = some r → PCalls Try.prog 26 xs r := by
  intro xs r h
  unfold hgPick at h
  split at h
  · split at h
    · rename_i l hl
      split at h
      · rename_i hc; cases h
        exact hPick_c (rowL_some (un := unI) unI_nil (@unI_some) hl) hc _
      · cases h
    · cases h
  · cases h
noncomputable def spH13 : Pm.Spec := spH12.one 26 hgPick
theorem spH13_ok : SpecOk Try.prog spH13 := Spec.one_ok hgPick_ok spH12_ok
attribute [go_sem] hgPick
@[go_sem] theorem spH13_p (f : FuncId) (xs : List TV) : spH13.p f xs = Pm.Spec.p (spH12.one 26 hgPick) f xs := rfl
@[go_sem] theorem spH13_h (f : FuncId) (ps : List PV) (hl : List PO) : spH13.h f ps hl = Pm.Spec.h (spH12.one 26 hgPick) f ps hl := rfl
@[go_sem] theorem spH13_y (Y : Pm.YS) (f : FuncId) (ps : List PV) (hl : List PO) : spH13.y Y f ps hl = Pm.Spec.y (spH12.one 26 hgPick) Y f ps hl := rfl
@[go_sem] theorem spH13_fz (f : FuncId) : spH13.fz f = Pm.Spec.fz (spH12.one 26 hgPick) f := rfl
@[go_sem] theorem spH13_fr (f : FuncId) : spH13.fr f = Pm.Spec.fr (spH12.one 26 hgPick) f := rfl
@[go_sem] theorem spH13_yf (f : FuncId) : spH13.yf f = Pm.Spec.yf (spH12.one 26 hgPick) f := rfl
@[go_sem] theorem spH13_mu (t : TypeId) : spH13.mu t = Pm.Spec.mu (spH12.one 26 hgPick) t := rfl
@[go_sem] theorem spH13_nf (t : TypeId) : spH13.nf t = Pm.Spec.nf (spH12.one 26 hgPick) t := rfl
noncomputable def spH14 : Pm.Spec := spH13
theorem spH14_ok : SpecOk Try.prog spH14 := spH13_ok
@[go_sem] theorem spH14_p (f : FuncId) (xs : List TV) : spH14.p f xs = Pm.Spec.p (spH13) f xs := rfl
@[go_sem] theorem spH14_h (f : FuncId) (ps : List PV) (hl : List PO) : spH14.h f ps hl = Pm.Spec.h (spH13) f ps hl := rfl
@[go_sem] theorem spH14_y (Y : Pm.YS) (f : FuncId) (ps : List PV) (hl : List PO) : spH14.y Y f ps hl = Pm.Spec.y (spH13) Y f ps hl := rfl
@[go_sem] theorem spH14_fz (f : FuncId) : spH14.fz f = Pm.Spec.fz (spH13) f := rfl
@[go_sem] theorem spH14_fr (f : FuncId) : spH14.fr f = Pm.Spec.fr (spH13) f := rfl
@[go_sem] theorem spH14_yf (f : FuncId) : spH14.yf f = Pm.Spec.yf (spH13) f := rfl
@[go_sem] theorem spH14_mu (t : TypeId) : spH14.mu t = Pm.Spec.mu (spH13) t := rfl
@[go_sem] theorem spH14_nf (t : TypeId) : spH14.nf t = Pm.Spec.nf (spH13) t := rfl
noncomputable def spH15 : Pm.Spec := spH14
theorem spH15_ok : SpecOk Try.prog spH15 := spH14_ok
@[go_sem] theorem spH15_p (f : FuncId) (xs : List TV) : spH15.p f xs = Pm.Spec.p (spH14) f xs := rfl
@[go_sem] theorem spH15_h (f : FuncId) (ps : List PV) (hl : List PO) : spH15.h f ps hl = Pm.Spec.h (spH14) f ps hl := rfl
@[go_sem] theorem spH15_y (Y : Pm.YS) (f : FuncId) (ps : List PV) (hl : List PO) : spH15.y Y f ps hl = Pm.Spec.y (spH14) Y f ps hl := rfl
@[go_sem] theorem spH15_fz (f : FuncId) : spH15.fz f = Pm.Spec.fz (spH14) f := rfl
@[go_sem] theorem spH15_fr (f : FuncId) : spH15.fr f = Pm.Spec.fr (spH14) f := rfl
@[go_sem] theorem spH15_yf (f : FuncId) : spH15.yf f = Pm.Spec.yf (spH14) f := rfl
@[go_sem] theorem spH15_mu (t : TypeId) : spH15.mu t = Pm.Spec.mu (spH14) t := rfl
@[go_sem] theorem spH15_nf (t : TypeId) : spH15.nf t = Pm.Spec.nf (spH14) t := rfl
noncomputable def spH16 : Pm.Spec := spH15
theorem spH16_ok : SpecOk Try.prog spH16 := spH15_ok
@[go_sem] theorem spH16_p (f : FuncId) (xs : List TV) : spH16.p f xs = Pm.Spec.p (spH15) f xs := rfl
@[go_sem] theorem spH16_h (f : FuncId) (ps : List PV) (hl : List PO) : spH16.h f ps hl = Pm.Spec.h (spH15) f ps hl := rfl
@[go_sem] theorem spH16_y (Y : Pm.YS) (f : FuncId) (ps : List PV) (hl : List PO) : spH16.y Y f ps hl = Pm.Spec.y (spH15) Y f ps hl := rfl
@[go_sem] theorem spH16_fz (f : FuncId) : spH16.fz f = Pm.Spec.fz (spH15) f := rfl
@[go_sem] theorem spH16_fr (f : FuncId) : spH16.fr f = Pm.Spec.fr (spH15) f := rfl
@[go_sem] theorem spH16_yf (f : FuncId) : spH16.yf f = Pm.Spec.yf (spH15) f := rfl
@[go_sem] theorem spH16_mu (t : TypeId) : spH16.mu t = Pm.Spec.mu (spH15) t := rfl
@[go_sem] theorem spH16_nf (t : TypeId) : spH16.nf t = Pm.Spec.nf (spH15) t := rfl
noncomputable def spH : Pm.Spec := spH16
@[go_sem] theorem spH_p (f : FuncId) (xs : List TV) : spH.p f xs = Pm.Spec.p (spH16) f xs := rfl
@[go_sem] theorem spH_h (f : FuncId) (ps : List PV) (hl : List PO) : spH.h f ps hl = Pm.Spec.h (spH16) f ps hl := rfl
@[go_sem] theorem spH_y (Y : Pm.YS) (f : FuncId) (ps : List PV) (hl : List PO) : spH.y Y f ps hl = Pm.Spec.y (spH16) Y f ps hl := rfl
@[go_sem] theorem spH_fz (f : FuncId) : spH.fz f = Pm.Spec.fz (spH16) f := rfl
@[go_sem] theorem spH_fr (f : FuncId) : spH.fr f = Pm.Spec.fr (spH16) f := rfl
@[go_sem] theorem spH_yf (f : FuncId) : spH.yf f = Pm.Spec.yf (spH16) f := rfl
@[go_sem] theorem spH_mu (t : TypeId) : spH.mu t = Pm.Spec.mu (spH16) t := rfl
@[go_sem] theorem spH_nf (t : TypeId) : spH.nf t = Pm.Spec.nf (spH16) t := rfl
theorem spH_ok : SpecOk Try.prog spH := spH16_ok
theorem noSpec_okH : SpecOk Try.prog noSpec := noSpec_ok
end Go.Proofs.Ytadkjjnnnkfalaa.Sx

/- Part Ibp. -/
namespace Go.Oc.Ix
end Go.Oc.Ix
namespace Go.Proofs.Ytadkjjnnnkfalaa.Ix
end Go.Proofs.Ytadkjjnnnkfalaa.Ix
namespace Go.Oc.Ix
open Go Go.Pm
def ic (n : Int) : List TV := [.int .i64 n]
theorem ic_ints (l : List Int) : l.flatMap ic = ints l := by
  induction l with
  | nil => rfl
  | cons x l ih => simp only [List.flatMap_cons, ih]; rfl
def unI : List TV → Option (List Int)
  | [] => some []
  | .int .i64 a :: r => (unI r).map (a :: ·)
  | _ => none
theorem unI_eq : ∀ l : List Int, unI (ints l) = some l
  | [] => rfl
  | x :: l => by
    show (unI (ints l)).map (x :: ·) = some (x :: l)
    rw [unI_eq l]; rfl
theorem unI_some : ∀ {cs : List TV} {l : List Int}, unI cs = some l → cs = l.flatMap ic := by
  intro cs
  induction cs using unI.induct with
  | case1 => intro l h; simp [unI] at h; subst h; rfl
  | case2 a r ih =>
    intro l h
    simp only [unI, Option.map_eq_some_iff] at h
    obtain ⟨l', h1, rfl⟩ := h
    rw [ih h1]; rfl
  | case3 r h1 h2 =>
    intro l h
    unfold unI at h
    split at h
    · exact absurd rfl h1
    · exact absurd rfl (h2 _ _)
    · cases h
attribute [go_sem] unI_eq

theorem before_end : ∀ {a b : List Int}, a = [] ∨ b = [] → before a b = decide (a.length < b.length)
  | [], [], _ => rfl
  | [], _ :: _, _ => by simp [before]
  | _ :: _, [], _ => by simp [before]
  | _ :: _, _ :: _, h => by rcases h with h | h <;> cases h
theorem rowL_is {α : Type} {un : List TV → Option (List α)} {c : α → List TV} (hu : ∀ l : List α, un (l.flatMap c) = some l) {s : TV} {l : List α} (h : IsRow c s l) : rowL un s = some l := by
  rcases h with ⟨rfl, rfl⟩ | ⟨full, rfl⟩
  · exact hu []
  · simp only [rowL, hu, if_true]
theorem rowI_is {s : TV} {l : List Int} (h : IsRow ic s l) : rowL unI s = some l := rowL_is (fun l => by rw [ic_ints]; exact unI_eq l) h
/-- A row as a function hands it back that appends to none. -/
def rowG {α : Type} (c : α → List TV) (l : List α) : TV := if l.length = 0 then .nilSl else .sl (l.flatMap c) l.length false
theorem rowG_is {α : Type} (c : α → List TV) (l : List α) : IsRow c (rowG c l) l := by
  unfold rowG
  split
  · rename_i h; exact .inl ⟨rfl, List.length_eq_zero_iff.1 h⟩
  · exact .inr ⟨_, rfl⟩
/-- .. with no room behind it. -/
def rowF {α : Type} (c : α → List TV) (l : List α) : TV := if l.length = 0 then .nilSl else .sl (l.flatMap c) l.length true
theorem rowF_is {α : Type} (c : α → List TV) (l : List α) : IsRow c (rowF c l) l := by
  unfold rowF
  split
  · rename_i h; exact .inl ⟨rfl, List.length_eq_zero_iff.1 h⟩
  · exact .inr ⟨_, rfl⟩
theorem flR_len {α : Type} (c : α → List TV) {n : Nat} (hc : ∀ x, (c x).length = n) (l : List α) : (l.flatMap c).length = l.length * n := flat_len c hc l
theorem mulB {a b A B : Int} (ha : 0 ≤ a) (hb : 0 ≤ b) (h1 : a ≤ A) (h2 : b ≤ B) : 0 ≤ a * b ∧ a * b ≤ A * B :=
  ⟨Int.mul_nonneg ha hb, Int.mul_le_mul h1 h2 hb (by omega)⟩
end Go.Oc.Ix

/- Part Ip. -/
namespace Go.Oc.Ix
end Go.Oc.Ix
namespace Go.Proofs.Ytadkjjnnnkfalaa.Ix
end Go.Proofs.Ytadkjjnnnkfalaa.Ix
namespace Go.Oc.Ix
open Go Go.Pm
set_option maxRecDepth 100000
set_option linter.unusedVariables false
/-- Heads. -/
def circOk : Int → List Int → Bool
  | _, [] => true
  | a, x :: l => inB x (a + 1) 200 && circOk x l
def headOk (t : Int) (l : List Int) : Bool := inB t 1 400 && (inB l.length 1 12 && circOk 1 l)
def nthI (l : List Int) (i : Int) : Int := l.getD i.toNat 0
theorem nthI_at {l : List Int} {k : Nat} {x : Int} (h : l[k]? = some x) : nthI l k = x := by
  unfold nthI; rw [Int.toNat_natCast, List.getD_eq_getElem?_getD, h]; rfl
theorem circ_mem : ∀ {a : Int} {l : List Int}, circOk a l = true → ∀ x ∈ l, a + 1 ≤ x ∧ x ≤ 200
  | a, [], _, x, hx => by cases hx
  | a, y :: l, h, x, hx => by
    simp only [circOk, Bool.and_eq_true, inB_iff] at h
    rcases List.mem_cons.1 hx with rfl | hx
    · exact h.1
    · have := circ_mem h.2 x hx; omega
theorem circ_lt : ∀ {a : Int} {l : List Int}, circOk a l = true → ∀ {i k : Nat} {x y : Int}, i < k → l[i]? = some x → l[k]? = some y → x < y
  | a, [], _, i, k, x, y, _, h, _ => by simp at h
  | a, z :: l, h, 0, k + 1, x, y, _, hx, hy => by
    simp only [circOk, Bool.and_eq_true, inB_iff] at h
    simp at hx hy; subst hx
    have := circ_mem h.2 y (List.mem_of_getElem? hy); omega
  | a, z :: l, h, i + 1, k + 1, x, y, hik, hx, hy => by
    simp only [circOk, Bool.and_eq_true] at h
    simp at hx hy
    exact circ_lt h.2 (by omega) hx hy
theorem headOk_iff {t : Int} {l : List Int} : headOk t l = true ↔ (1 ≤ t ∧ t ≤ 400) ∧ (1 ≤ l.length ∧ l.length ≤ 12) ∧ circOk 1 l = true := by
  simp only [headOk, Bool.and_eq_true, inB_iff]
  constructor
  · rintro ⟨a, b, c⟩; exact ⟨a, ⟨by omega, by omega⟩, c⟩
  · rintro ⟨a, b, c⟩; exact ⟨a, ⟨by omega, by omega⟩, c⟩
theorem head_at {t : Int} {l : List Int} (h : headOk t l = true) {k : Nat} {x : Int} (hx : l[k]? = some x) : 2 ≤ x ∧ x ≤ 200 := by
  have := circ_mem (headOk_iff.1 h).2.2 x (List.mem_of_getElem? hx); omega
/-- The loop over the circles, as the program goes: so far all is well, and the last one. -/
def circTo : Bool → Int → List Int → Bool
  | ok, _, [] => ok
  | ok, a, x :: l => circTo (ok && inB x (IntKind.i64.wrap (a + 1)) 200) x l
theorem circTo_false : ∀ (a : Int) (l : List Int), circTo false a l = false
  | _, [] => rfl
  | a, x :: l => by simp only [circTo, Bool.false_and]; exact circTo_false x l
theorem circTo_eq : ∀ {a : Int} {l : List Int} (ok : Bool), -9223372036854775808 ≤ a ∧ a ≤ 9223372036854775806 → circTo ok a l = (ok && circOk a l)
  | a, [], ok, _ => by simp [circTo, circOk]
  | a, x :: l, ok, h => by
    rw [circTo, wrap_in (by omega) (by omega)]
    cases hx : (ok && inB x (a + 1) 200) with
    | false =>
      rw [circTo_false, circOk, ← Bool.and_assoc, hx, Bool.false_and]
    | true =>
      simp only [Bool.and_eq_true, inB_iff] at hx
      rw [circTo_eq true ⟨by omega, by omega⟩, circOk]
      have : inB x (a + 1) 200 = true := inB_iff.2 hx.2
      rw [this, hx.1, Bool.true_and, Bool.true_and]

/-- Plans. -/
structure Pl where
  c : Int
  t : Int
  h : Int
  deriving DecidableEq
def Pl.cs (p : Pl) : List TV := [.int .i64 p.c, .int .i64 p.t, .int .i64 p.h]
def Pl.tv (p : Pl) : TV := .agg p.cs
def planAt (t h n i : Int) : Option Pl := if t * h % n = 0 then some ⟨i, t * h / n / h, t * h / n % h⟩ else none
def plansTo (t : Int) (l : List Int) (n : Int) (k : Nat) : List Pl := (List.range k).filterMap fun i : Nat => planAt t (nthI l i) n i
def plansP (t : Int) (l : List Int) (n : Int) : List Pl := plansTo t l n l.length
theorem plansTo_succ (t : Int) (l : List Int) (n : Int) (k : Nat) : plansTo t l n (k + 1) = plansTo t l n k ++ (planAt t (nthI l k) n k).toList := by
  unfold plansTo
  rw [List.range_succ, List.filterMap_append]
  simp only [List.filterMap_cons, List.filterMap_nil]
  cases planAt t (nthI l k) n k <;> rfl
theorem plansTo_len (t : Int) (l : List Int) (n : Int) (k : Nat) : (plansTo t l n k).length ≤ k := by
  unfold plansTo
  have := List.length_filterMap_le (fun i : Nat => planAt t (nthI l i) n i) (List.range k)
  simpa using this
def plansE (t : Int) (l : List Int) (n : Int) : List Pl × Int :=
  if headOk t l = false then ([], 10) else if inB n 1 20000 = false then ([], 11) else if (plansP t l n).length = 0 then ([], 4) else (plansP t l n, 0)
/-- What a plan that closes is. -/
theorem plan_spec {t h n i : Int} {p : Pl} (hn : 0 < n) (hh : 0 < h) (hp : planAt t h n i = some p) : p.c = i ∧ 0 ≤ p.h ∧ p.h < h ∧ n * (p.t * h + p.h) = t * h := by
  unfold planAt at hp
  split at hp
  · rename_i e
    cases hp
    have h1 := Int.mul_ediv_add_emod (t * h) n
    have h2 := Int.mul_ediv_add_emod (t * h / n) h
    have h3 := Int.emod_nonneg (t * h / n) (show h ≠ 0 by omega)
    have h4 := Int.emod_lt_of_pos (t * h / n) hh
    refine ⟨rfl, h3, h4, ?_⟩
    simp only
    rw [Int.mul_comm (t * h / n / h) h, h2]
    omega
  · cases hp

/-- Compound plans. -/
structure Pr where
  a : Int
  b : Int
  x : Int
  y : Int
  deriving DecidableEq
def Pr.cs (p : Pr) : List TV := [.int .i64 p.a, .int .i64 p.b, .int .i64 p.x, .int .i64 p.y]
def Pr.tv (p : Pr) : TV := .agg p.cs
def holP (p : Pr) : Int := max p.x (-p.x) + max p.y (-p.y)
/-- Of the compound plans of two circles (with a and b holes): the one that moves x holes on the first one. -/
def prAt (t a b n i k x : Int) : Option Pr :=
  if t * a * b % n = 0 ∧ (t * a * b / n - x * b) % a = 0 ∧ inB ((t * a * b / n - x * b) / a) (-2000) 2000 = true then some ⟨i, k, x, (t * a * b / n - x * b) / a⟩ else none
def prsTo (t a b n i k : Int) (m : Nat) : List Pr := (List.range m).filterMap fun j : Nat => prAt t a b n i k ((j : Int) - 2000)
def prsP (t a b n i k : Int) : List Pr := prsTo t a b n i k 4001
theorem prsTo_succ (t a b n i k : Int) (m : Nat) : prsTo t a b n i k (m + 1) = prsTo t a b n i k m ++ (prAt t a b n i k ((m : Int) - 2000)).toList := by
  unfold prsTo
  rw [List.range_succ, List.filterMap_append]
  simp only [List.filterMap_cons, List.filterMap_nil]
  cases prAt t a b n i k ((m : Int) - 2000) <;> rfl
theorem prsTo_len (t a b n i k : Int) (m : Nat) : (prsTo t a b n i k m).length ≤ m := by
  unfold prsTo
  have := List.length_filterMap_le (fun j : Nat => prAt t a b n i k ((j : Int) - 2000)) (List.range m)
  simpa using this
/-- The first one of the best of a list. -/
def minS (o : Option Pr) (p : Pr) : Option Pr := match o with
  | none => some p
  | some q => if holP p < holP q then some p else some q
def minL (l : List Pr) : Option Pr := l.foldl minS none
theorem minL_snoc (l : List Pr) (p : Pr) : minL (l ++ [p]) = minS (minL l) p := by unfold minL; rw [List.foldl_append]; rfl
theorem snocInd {α : Type} {P : List α → Prop} (h0 : P []) (h1 : ∀ l a, P l → P (l ++ [a])) (l : List α) : P l := by
  have : ∀ l : List α, P l.reverse := by
    intro l
    induction l with
    | nil => exact h0
    | cons a l ih => rw [List.reverse_cons]; exact h1 _ _ ih
  have h := this l.reverse
  rwa [List.reverse_reverse] at h
theorem minL_none : ∀ l : List Pr, minL l = none ↔ l = [] := by
  intro l
  refine snocInd (P := fun l => minL l = none ↔ l = []) (by simp [minL]) (fun l p ih => ?_) l
  rw [minL_snoc]
  unfold minS
  split
  · simp
  · split <;> simp
theorem minL_some {R : Pr → Pr → Prop} : ∀ {l : List Pr} {r : Pr}, l.Pairwise R → minL l = some r → r ∈ l ∧ ∀ c ∈ l, holP r < holP c ∨ holP r = holP c ∧ (r = c ∨ R r c) := by
  intro l
  refine snocInd (P := fun l => ∀ {r : Pr}, l.Pairwise R → minL l = some r → r ∈ l ∧ ∀ c ∈ l, holP r < holP c ∨ holP r = holP c ∧ (r = c ∨ R r c)) (fun _ h => by simp [minL] at h) (fun l p ih => ?_) l
  · intro r hR h
    rw [List.pairwise_append] at hR
    obtain ⟨h1, _, h3⟩ := hR
    rw [minL_snoc] at h
    unfold minS at h
    split at h
    · rename_i e
      cases h
      rw [minL_none] at e
      subst e
      refine ⟨by simp, fun c hc => ?_⟩
      simp at hc; subst hc; exact .inr ⟨rfl, .inl rfl⟩
    · rename_i q e
      obtain ⟨hq, hm⟩ := ih h1 e
      split at h
      · rename_i hlt
        cases h
        refine ⟨by simp, fun c hc => ?_⟩
        rcases List.mem_append.1 hc with hc | hc
        · rcases hm c hc with h | ⟨h, _⟩
          · left; omega
          · left; omega
        · simp at hc; subst hc; exact .inr ⟨rfl, .inl rfl⟩
      · rename_i hlt
        cases h
        refine ⟨by simp [hq], fun c hc => ?_⟩
        rcases List.mem_append.1 hc with hc | hc
        · exact hm c hc
        · simp at hc; subst hc
          by_cases he : holP r = holP c
          · exact .inr ⟨he, .inr (h3 r hq c (by simp))⟩
          · left; omega
/-- All compound plans, as the specification goes: by A, then by B, then by X. -/
def candK (t : Int) (l : List Int) (n : Int) (i k : Nat) : List Pr := prsP t (nthI l i) (nthI l k) n i k
def candI (t : Int) (l : List Int) (n : Int) (i m : Nat) : List Pr := (List.range' (i + 1) m).flatMap fun k => candK t l n i k
def cands (t : Int) (l : List Int) (n : Int) (m : Nat) : List Pr := (List.range m).flatMap fun i => candI t l n i (l.length - (i + 1))
def compP (t : Int) (l : List Int) (n : Int) : Option Pr := minL (cands t l n l.length)
def compE (t : Int) (l : List Int) (n : Int) : Pr × Int :=
  if headOk t l = false then (⟨0, 0, 0, 0⟩, 10) else if inB n 1 20000 = false then (⟨0, 0, 0, 0⟩, 11) else match compP t l n with
    | none => (⟨0, 0, 0, 0⟩, 4)
    | some p => (p, 0)
def befP (p q : Pr) : Prop := p.a < q.a ∨ p.a = q.a ∧ (p.b < q.b ∨ p.b = q.b ∧ p.x < q.x)
theorem prAt_eq {t a b n i k x : Int} {p : Pr} (h : prAt t a b n i k x = some p) : p.a = i ∧ p.b = k ∧ p.x = x ∧ t * a * b % n = 0 ∧ (t * a * b / n - x * b) % a = 0 ∧ p.y = (t * a * b / n - x * b) / a ∧ -2000 ≤ p.y ∧ p.y ≤ 2000 := by
  unfold prAt at h
  split at h
  · rename_i hc; cases h
    have := inB_iff.1 hc.2.2
    exact ⟨rfl, rfl, rfl, hc.1, hc.2.1, rfl, this.1, this.2⟩
  · cases h
theorem prsTo_mem {t a b n i k : Int} {m : Nat} {p : Pr} : p ∈ prsTo t a b n i k m ↔ ∃ j : Nat, j < m ∧ prAt t a b n i k ((j : Int) - 2000) = some p := by
  unfold prsTo
  rw [List.mem_filterMap]
  simp only [List.mem_range]
theorem prsTo_pw (t a b n i k : Int) (m : Nat) : (prsTo t a b n i k m).Pairwise fun p q => p.a = i ∧ q.a = i ∧ p.b = k ∧ q.b = k ∧ p.x < q.x := by
  unfold prsTo
  rw [List.pairwise_filterMap]
  refine List.Pairwise.imp ?_ List.pairwise_lt_range
  intro c d hcd p hp q hq
  have h1 := prAt_eq hp
  have h2 := prAt_eq hq
  refine ⟨h1.1, h2.1, h1.2.1, h2.2.1, ?_⟩
  rw [h1.2.2.1, h2.2.2.1]; omega
theorem candI_pw (t : Int) (l : List Int) (n : Int) (i m : Nat) : (candI t l n i m).Pairwise fun p q => p.a = (i : Int) ∧ q.a = (i : Int) ∧ (p.b < q.b ∨ p.b = q.b ∧ p.x < q.x) := by
  unfold candI
  rw [List.pairwise_flatMap]
  refine ⟨fun k _ => (prsTo_pw ..).imp fun h => ⟨h.1, h.2.1, .inr ⟨h.2.2.1.trans h.2.2.2.1.symm, h.2.2.2.2⟩⟩, ?_⟩
  refine List.Pairwise.imp ?_ List.pairwise_lt_range'
  intro c d hcd p hp q hq
  obtain ⟨j1, _, h1⟩ := prsTo_mem.1 hp
  obtain ⟨j2, _, h2⟩ := prsTo_mem.1 hq
  have h1 := prAt_eq h1
  have h2 := prAt_eq h2
  exact ⟨h1.1, h2.1, .inl (by rw [h1.2.1, h2.2.1]; omega)⟩
theorem candI_mem {t : Int} {l : List Int} {n : Int} {i m : Nat} {p : Pr} : p ∈ candI t l n i m ↔ ∃ k j : Nat, i < k ∧ k < i + 1 + m ∧ j < 4001 ∧ prAt t (nthI l i) (nthI l k) n i k ((j : Int) - 2000) = some p := by
  unfold candI
  rw [List.mem_flatMap]
  constructor
  · rintro ⟨k, hk, h⟩
    rw [List.mem_range'_1] at hk
    obtain ⟨j, h1, h2⟩ := prsTo_mem.1 h
    exact ⟨k, j, by omega, by omega, h1, h2⟩
  · rintro ⟨k, j, h1, h2, h3, h4⟩
    exact ⟨k, List.mem_range'_1.2 (by omega), prsTo_mem.2 ⟨j, h3, h4⟩⟩
theorem cands_pw (t : Int) (l : List Int) (n : Int) (m : Nat) : (cands t l n m).Pairwise befP := by
  unfold cands
  rw [List.pairwise_flatMap]
  refine ⟨fun i _ => (candI_pw ..).imp fun h => .inr ⟨h.1.trans h.2.1.symm, h.2.2⟩, ?_⟩
  refine List.Pairwise.imp ?_ List.pairwise_lt_range
  intro c d hcd p hp q hq
  obtain ⟨k1, j1, _, _, _, h1⟩ := candI_mem.1 hp
  obtain ⟨k2, j2, _, _, _, h2⟩ := candI_mem.1 hq
  have h1 := prAt_eq h1
  have h2 := prAt_eq h2
  left; rw [h1.1, h2.1]; omega
theorem cands_mem {t : Int} {l : List Int} {n : Int} {p : Pr} : p ∈ cands t l n l.length ↔ ∃ i k j : Nat, i < k ∧ k < l.length ∧ j < 4001 ∧ prAt t (nthI l i) (nthI l k) n i k ((j : Int) - 2000) = some p := by
  unfold cands
  rw [List.mem_flatMap]
  constructor
  · rintro ⟨i, hi, h⟩
    rw [List.mem_range] at hi
    obtain ⟨k, j, h1, h2, h3, h4⟩ := candI_mem.1 h
    exact ⟨i, k, j, h1, by omega, h3, h4⟩
  · rintro ⟨i, k, j, h1, h2, h3, h4⟩
    exact ⟨i, List.mem_range.2 (by omega), candI_mem.2 ⟨k, j, h1, by omega, h3, h4⟩⟩
/-- Which one it is. -/
theorem compP_some {t : Int} {l : List Int} {n : Int} {r : Pr} (h : compP t l n = some r) : r ∈ cands t l n l.length ∧ ∀ c ∈ cands t l n l.length, holP r < holP c ∨ holP r = holP c ∧ (r = c ∨ befP r c) := minL_some (cands_pw ..) h
theorem compP_none {t : Int} {l : List Int} {n : Int} : compP t l n = none ↔ cands t l n l.length = [] := minL_none _

/-- The best of a list, as the program finds it: by what is better. -/
def bestS (f : Pr → Pr → Bool) (o : Option Pr) (p : Pr) : Option Pr := match o with
  | none => some p
  | some q => if f p q then some p else some q
def bestF (f : Pr → Pr → Bool) (l : List Pr) : Option Pr := l.foldl (bestS f) none
theorem bestF_snoc (f : Pr → Pr → Bool) (l : List Pr) (p : Pr) : bestF f (l ++ [p]) = bestS f (bestF f l) p := by unfold bestF; rw [List.foldl_append]; rfl
def lessH (p q : Pr) : Bool := decide (holP p < holP q)
theorem bestF_min (l : List Pr) : bestF lessH l = minL l := by
  unfold bestF minL
  congr 1
  funext o p
  cases o with
  | none => rfl
  | some q => simp [bestS, minS, lessH]
def lessB (p q : Pr) : Bool := if holP p ≠ holP q then decide (holP p < holP q) else decide (p.a < q.a) || p.a == q.a && decide (p.b < q.b)
theorem lessB_iff {p q : Pr} : lessB p q = true ↔ holP p < holP q ∨ holP p = holP q ∧ (p.a < q.a ∨ p.a = q.a ∧ p.b < q.b) := by
  unfold lessB
  split
  · rename_i h; rw [decide_eq_true_eq]; constructor
    · exact fun h => .inl h
    · rintro (h' | ⟨h', _⟩)
      · exact h'
      · exact absurd h' h
  · rename_i h
    have h : holP p = holP q := by omega
    simp only [Bool.or_eq_true, Bool.and_eq_true, decide_eq_true_eq, beq_iff_eq]
    omega
theorem bestB_none : ∀ l : List Pr, bestF lessB l = none ↔ l = [] := by
  intro l
  refine snocInd (P := fun l => bestF lessB l = none ↔ l = []) (by simp [bestF]) (fun l p ih => ?_) l
  rw [bestF_snoc]
  unfold bestS
  split
  · simp
  · split <;> simp
theorem bestB_some : ∀ {l : List Pr} {r : Pr}, bestF lessB l = some r → r ∈ l ∧ ∀ c ∈ l, lessB c r = false := by
  intro l
  refine snocInd (P := fun l => ∀ {r : Pr}, bestF lessB l = some r → r ∈ l ∧ ∀ c ∈ l, lessB c r = false) (fun h => by simp [bestF] at h) (fun l p ih => ?_) l
  · intro r h
    rw [bestF_snoc] at h
    unfold bestS at h
    have irr : ∀ p : Pr, lessB p p = false := fun p => by
      rw [Bool.eq_false_iff]; intro h; rw [lessB_iff] at h; omega
    split at h
    · rename_i e
      cases h
      rw [bestB_none] at e
      subst e
      refine ⟨by simp, fun c hc => ?_⟩
      simp at hc; subst hc; exact irr _
    · rename_i q e
      obtain ⟨hq, hm⟩ := ih e
      split at h
      · rename_i hlt
        cases h
        refine ⟨by simp, fun c hc => ?_⟩
        rcases List.mem_append.1 hc with hc | hc
        · have h1 := hm c hc
          rw [Bool.eq_false_iff] at h1 ⊢
          intro h2
          apply h1
          rw [lessB_iff] at *
          omega
        · simp at hc; subst hc; exact irr _
      · rename_i hlt
        cases h
        refine ⟨by simp [hq], fun c hc => ?_⟩
        rcases List.mem_append.1 hc with hc | hc
        · exact hm c hc
        · simp at hc; subst hc
          simpa using hlt
def allA (t : Int) (l : List Int) (n : Int) (b m : Nat) : List Pr := (List.range m).filterMap fun a => minL (candK t l n a b)
def allB (t : Int) (l : List Int) (n : Int) (m : Nat) : List Pr := (List.range m).flatMap fun b => allA t l n b b
theorem candK_mem {t : Int} {l : List Int} {n : Int} {i k : Nat} {p : Pr} : p ∈ candK t l n i k ↔ ∃ j : Nat, j < 4001 ∧ prAt t (nthI l i) (nthI l k) n i k ((j : Int) - 2000) = some p := prsTo_mem
theorem candK_some {t : Int} {l : List Int} {n : Int} {i k : Nat} {r : Pr} (h : minL (candK t l n i k) = some r) : (r ∈ candK t l n i k ∧ r.a = i ∧ r.b = k) ∧ ∀ c ∈ candK t l n i k, holP r < holP c ∨ holP r = holP c ∧ (r = c ∨ r.x < c.x) := by
  obtain ⟨h1, h2⟩ := minL_some (prsTo_pw ..) h
  obtain ⟨j, _, hj⟩ := candK_mem.1 h1
  have hj := prAt_eq hj
  refine ⟨⟨h1, hj.1, hj.2.1⟩, fun c hc => ?_⟩
  rcases h2 c hc with h | ⟨h, h' | h'⟩
  · exact .inl h
  · exact .inr ⟨h, .inl h'⟩
  · exact .inr ⟨h, .inr h'.2.2.2.2⟩
theorem allB_mem {t : Int} {l : List Int} {n : Int} {r : Pr} : r ∈ allB t l n l.length ↔ ∃ a b : Nat, a < b ∧ b < l.length ∧ minL (candK t l n a b) = some r := by
  unfold allB allA
  simp only [List.mem_flatMap, List.mem_filterMap, List.mem_range]
  constructor
  · rintro ⟨b, hb, a, ha, h⟩; exact ⟨a, b, ha, hb, h⟩
  · rintro ⟨a, b, ha, hb, h⟩; exact ⟨b, hb, a, ha, h⟩
theorem comp_prog (t : Int) (l : List Int) (n : Int) : bestF lessB (allB t l n l.length) = compP t l n := by
  have key : ∀ {a b : Nat} {p : Pr}, a < b → b < l.length → p ∈ candK t l n a b → p ∈ cands t l n l.length := fun h1 h2 h => by
    obtain ⟨j, h3, h4⟩ := candK_mem.1 h
    exact cands_mem.2 ⟨_, _, j, h1, h2, h3, h4⟩
  cases hc : compP t l n with
  | none =>
    rw [compP_none] at hc
    rw [bestB_none]
    rw [List.eq_nil_iff_forall_not_mem]
    intro r hr
    obtain ⟨a, b, h1, h2, h3⟩ := allB_mem.1 hr
    have := key h1 h2 (candK_some h3).1.1
    rw [hc] at this; cases this
  | some r' =>
    obtain ⟨m1, m2⟩ := compP_some hc
    obtain ⟨i, k, j, h1, h2, h3, h4⟩ := cands_mem.1 m1
    have hk : r' ∈ candK t l n i k := candK_mem.2 ⟨j, h3, h4⟩
    have h4 := prAt_eq h4
    cases hs : minL (candK t l n i k) with
    | none => rw [minL_none] at hs; rw [hs] at hk; cases hk
    | some s =>
      have hsA : s ∈ allB t l n l.length := allB_mem.2 ⟨i, k, h1, h2, hs⟩
      obtain ⟨⟨s1, s2, s3⟩, s4⟩ := candK_some hs
      cases hr : bestF lessB (allB t l n l.length) with
      | none => rw [bestB_none] at hr; rw [hr] at hsA; cases hsA
      | some r =>
        obtain ⟨r1, r2⟩ := bestB_some hr
        obtain ⟨a, b, g1, g2, g3⟩ := allB_mem.1 r1
        obtain ⟨⟨t1, t2, t3⟩, t4⟩ := candK_some g3
        have q1 := m2 r (key g1 g2 t1)
        have q2 := r2 s hsA
        rw [Bool.eq_false_iff, ne_eq, lessB_iff] at q2
        have q3 := s4 r' hk
        congr 1
        have e1 : holP r = holP r' := by omega
        have e2 : holP s = holP r := by omega
        have q4 : r' = r ∨ befP r' r := by
          rcases q1 with h | ⟨_, h⟩
          · omega
          · exact h
        rcases q4 with h | h
        · exact h.symm
        · exfalso
          unfold befP at h
          have e3 : r'.a = i := h4.1
          have e4 : r'.b = k := h4.2.1
          have ha : r'.a = r.a ∧ r'.b = r.b ∧ r'.x < r.x := by omega
          have hia : i = a := by omega
          have hkb : k = b := by omega
          subst hia; subst hkb
          rcases t4 r' hk with h' | ⟨_, h' | h'⟩
          · omega
          · rw [h'] at ha; omega
          · omega

/-- Lines. -/
def placeP (all n k : Int) : Int := if 2 * (k * all % n) ≤ n then k * all / n else k * all / n + 1
def wrongP (all n k : Int) : Int := placeP all n k * n - k * all
def absI (n : Int) : Int := max n (-n)
theorem place_spec {all n k : Int} (hn : 0 < n) : (placeP all n k = k * all / n ∧ wrongP all n k = -(k * all % n) ∧ 2 * (k * all % n) ≤ n) ∨ (placeP all n k = k * all / n + 1 ∧ wrongP all n k = n - k * all % n ∧ n < 2 * (k * all % n)) := by
  have h1 := Int.mul_ediv_add_emod (k * all) n
  unfold wrongP placeP
  generalize k * all / n = q at *
  generalize k * all % n = r at *
  generalize k * all = a at *
  split
  · left; refine ⟨rfl, ?_, by omega⟩
    rw [Int.mul_comm q n]; omega
  · right; refine ⟨rfl, ?_, by omega⟩
    rw [Int.add_mul, Int.mul_comm q n]; omega
theorem wrong_bound {all n k : Int} (hn : 0 < n) : -n ≤ wrongP all n k ∧ wrongP all n k ≤ n := by
  have h1 := Int.emod_nonneg (k * all) (show n ≠ 0 by omega)
  have h2 := Int.emod_lt_of_pos (k * all) hn
  rcases place_spec (all := all) (k := k) hn with ⟨_, h, _⟩ | ⟨_, h, _⟩ <;> rw [h] <;> omega
theorem line_place {all n k : Int} (hn : 0 < n) (h0 : 0 ≤ k * all) : (2 * k * all - n + 2 * n - 1).tdiv (2 * n) = placeP all n k := by
  have h1 := Int.mul_ediv_add_emod (k * all) n
  have h2 := Int.emod_nonneg (k * all) (show n ≠ 0 by omega)
  have h3 := Int.emod_lt_of_pos (k * all) hn
  rw [Int.mul_assoc 2 k all, Int.tdiv_eq_ediv_of_nonneg (by omega)]
  unfold placeP
  generalize k * all / n = q at *
  generalize k * all % n = r at *
  generalize k * all = a at *
  subst h1
  split
  · have e : 2 * (n * q + r) - n + 2 * n - 1 = (2 * r + n - 1) + q * (2 * n) := by
      rw [Int.mul_comm q (2 * n), Int.mul_assoc]; omega
    rw [e, Int.add_mul_ediv_right _ _ (by omega), Int.ediv_eq_zero_of_lt (by omega) (by omega)]; omega
  · have e : 2 * (n * q + r) - n + 2 * n - 1 = (2 * r - n - 1) + (q + 1) * (2 * n) := by
      rw [Int.add_mul, Int.mul_comm q (2 * n), Int.mul_assoc]; omega
    rw [e, Int.add_mul_ediv_right _ _ (by omega), Int.ediv_eq_zero_of_lt (by omega) (by omega)]; omega
def faultTo (all n : Int) (m : Nat) : Int := (List.range m).foldl (fun (a : Int) (k : Nat) => max a (absI (wrongP all n k))) 0
def faultP (all n : Int) : Int := faultTo all n n.toNat
theorem faultTo_succ (all n : Int) (m : Nat) : faultTo all n (m + 1) = max (faultTo all n m) (absI (wrongP all n m)) := by
  unfold faultTo; rw [List.range_succ, List.foldl_append]; rfl
theorem faultTo_bound {all n : Int} (hn : 0 < n) : ∀ m : Nat, 0 ≤ faultTo all n m ∧ faultTo all n m ≤ n
  | 0 => by simp [faultTo]; omega
  | m + 1 => by
    have h1 := faultTo_bound (all := all) hn m
    have h2 := wrong_bound (all := all) (k := m) hn
    rw [faultTo_succ]; unfold absI; omega
theorem faultTo_le {all n : Int} : ∀ {m k : Nat}, k < m → absI (wrongP all n k) ≤ faultTo all n m
  | m + 1, k, h => by
    rw [faultTo_succ]
    by_cases hk : k = m
    · subst hk; omega
    · have := faultTo_le (all := all) (n := n) (show k < m by omega); omega
theorem faultTo_is {all n : Int} : ∀ {m : Nat}, 0 < m → ∃ k : Nat, k < m ∧ faultTo all n m = absI (wrongP all n k)
  | 1, _ => ⟨0, by omega, by rw [faultTo_succ]; simp only [faultTo, List.range_zero, List.foldl_nil]; unfold absI; omega⟩
  | m + 2, _ => by
    obtain ⟨k, h1, h2⟩ := faultTo_is (all := all) (n := n) (show 0 < m + 1 by omega)
    rw [faultTo_succ]
    by_cases h : faultTo all n (m + 1) ≤ absI (wrongP all n ((m + 1 : Nat) : Int))
    · exact ⟨m + 1, by omega, by omega⟩
    · exact ⟨k, by omega, by omega⟩
/-- How many lines are cut before their place, and behind it. -/
def offTo (all n : Int) (m : Nat) : Int × Int := (List.range m).foldl (fun (a : Int × Int) (k : Nat) => if wrongP all n k < 0 then (a.1 + 1, a.2) else if wrongP all n k > 0 then (a.1, a.2 + 1) else a) (0, 0)
theorem offTo_succ (all n : Int) (m : Nat) : offTo all n (m + 1) = if wrongP all n m < 0 then ((offTo all n m).1 + 1, (offTo all n m).2) else if wrongP all n m > 0 then ((offTo all n m).1, (offTo all n m).2 + 1) else offTo all n m := by
  unfold offTo; rw [List.range_succ, List.foldl_append]; rfl
theorem offTo_spec (all n : Int) : ∀ m : Nat, 0 ≤ (offTo all n m).1 ∧ 0 ≤ (offTo all n m).2 ∧ (offTo all n m).1 + (offTo all n m).2 ≤ m ∧ ((offTo all n m).1 = 0 ∧ (offTo all n m).2 = 0 → faultTo all n m = 0)
  | 0 => by simp [offTo, faultTo]
  | m + 1 => by
    obtain ⟨h1, h2, h3, h4⟩ := offTo_spec all n m
    rw [offTo_succ, faultTo_succ]
    split
    · simp only; refine ⟨by omega, by omega, by omega, by omega⟩
    · split
      · simp only; refine ⟨by omega, by omega, by omega, by omega⟩
      · refine ⟨h1, h2, by omega, fun h => ?_⟩
        rw [h4 h]; unfold absI; omega
/-- What is engraved. -/
def engrP (fault all : Int) : Int := (fault * 129600000 + all - 1) / all
theorem engr_up {f all : Int} (ha : 0 < all) : -((-(f * 129600000)) / all) = engrP f all := by
  unfold engrP
  generalize f * 129600000 = a
  have h1 := Int.mul_ediv_add_emod (-a) all
  have h2 := Int.emod_nonneg (-a) (show all ≠ 0 by omega)
  have h3 := Int.emod_lt_of_pos (-a) ha
  have e : a + all - 1 = (all - 1 - (-a) % all) + (-((-a) / all)) * all := by
    rw [Int.neg_mul, Int.mul_comm ((-a) / all) all]; omega
  have e2 : (all - 1 - (-a) % all) / all = 0 := Int.ediv_eq_zero_of_lt (by omega) (by omega)
  rw [e, Int.add_mul_ediv_right _ _ (by omega), e2]; omega
def cutE (t : Int) (l : List Int) (c n : Int) : List Int × Int × Int :=
  if headOk t l = false then ([], 0, 10) else if inB n 1 2000 = false then ([], 0, 11) else if inB c 0 ((l.length : Int) - 1) = false then ([], 0, 12) else
    ((List.range n.toNat).map (fun k : Nat => placeP (t * nthI l c) n k), engrP (faultP (t * nthI l c) n) (n * (t * nthI l c)), 0)
/-- The best circle of the first ones (one more than k), and its fault. -/
def bestK (t : Int) (l : List Int) (n : Int) : Nat → Int × Int
  | 0 => (0, faultP (t * nthI l 0) n)
  | k + 1 => if faultP (t * nthI l ((k + 1 : Nat) : Int)) n * nthI l (bestK t l n k).1 < (bestK t l n k).2 * nthI l ((k + 1 : Nat) : Int) then (((k + 1 : Nat) : Int), faultP (t * nthI l ((k + 1 : Nat) : Int)) n) else bestK t l n k
def bestE (t : Int) (l : List Int) (n : Int) : Int × Int × Int :=
  if headOk t l = false then (0, 0, 10) else if inB n 1 2000 = false then (0, 0, 11) else
    ((bestK t l n (l.length - 1)).1, engrP (bestK t l n (l.length - 1)).2 (n * (t * nthI l (bestK t l n (l.length - 1)).1)), 0)
theorem bestK_spec (t : Int) (l : List Int) (n : Int) (k : Nat) : 0 ≤ (bestK t l n k).1 ∧ (bestK t l n k).1 ≤ k ∧ (bestK t l n k).2 = faultP (t * nthI l (bestK t l n k).1) n := by
  induction k with
  | zero => exact ⟨Int.le_refl _, Int.le_refl _, rfl⟩
  | succ k ih =>
    rw [bestK]
    split
    · exact ⟨by simp only; omega, by simp only; omega, rfl⟩
    · exact ⟨ih.1, by omega, ih.2.2⟩
/-- Trains. -/
structure Tn where
  a : Int
  b : Int
  c : Int
  d : Int
  deriving DecidableEq
def Tn.cs (p : Tn) : List TV := [.int .i64 p.a, .int .i64 p.b, .int .i64 p.c, .int .i64 p.d]
def Tn.tv (p : Tn) : TV := .agg p.cs
def stockOk1 (st : List Int) : Bool := inB st.length 2 10 && st.all fun n => inB n 10 200
/-- Do wheels give the ratio? (every second one is driven) -/
def drvL (st : List Int) : Bool → Int → Int → List Int → Int × Int
  | _, x, y, [] => (x, y)
  | true, x, y, w :: l => drvL st false (x * nthI st w) y l
  | false, x, y, w :: l => drvL st true x (y * nthI st w) l
def fitsL (st : List Int) (p q : Int) (l : List Int) : Bool := (drvL st true q p l).1 == (drvL st true q p l).2
def tnOf : List Int → Tn
  | [a, b] => ⟨a, b, -1, -1⟩
  | [a, b, c, d] => ⟨a, b, c, d⟩
  | _ => ⟨-1, -1, -1, -1⟩
/-- The first wheels that fit, d more behind l. -/
def srch (st : List Int) (p q : Int) : Nat → List Int → Option (List Int)
  | 0, l => if fitsL st p q l = true then some l else none
  | d + 1, l => (List.range st.length).findSome? fun i : Nat => if l.contains (i : Int) then none else srch st p q d (l ++ [(i : Int)])
def trainP (st : List Int) (p q : Int) : Option Tn := match srch st p q 2 [] with
  | some l => some (tnOf l)
  | none => (srch st p q 4 []).map tnOf
def trainE (st : List Int) (p q : Int) : Tn × Int :=
  if (stockOk1 st && inB p 1 100000 && inB q 1 100000) = false then (⟨0, 0, 0, 0⟩, 13) else match trainP st p q with
    | none => (⟨0, 0, 0, 0⟩, 4)
    | some t => (t, 0)
/-- Differentials. -/
structure Df where
  m : Int
  p : Pl
  t : Tn
  on : Bool
  deriving DecidableEq
def Df.cs (x : Df) : List TV := .int .i64 x.m :: (x.p.cs ++ (x.t.cs ++ [.bool x.on]))
def Df.tv (x : Df) : TV := .agg x.cs
def diff1 (t : Int) (l st : List Int) (n aside m : Int) : Option Df :=
  if inB m 1 20000 = false then none else match plansP t l m with
    | [] => none
    | p :: _ => match trainP st (t * aside) m with
      | none => none
      | some tr => some ⟨m, p, tr, decide (m > n)⟩
def diff2 (t : Int) (l st : List Int) (n aside : Int) : Option Df := match diff1 t l st n aside (n - aside) with
  | some x => some x
  | none => diff1 t l st n aside (n + aside)
def diffP (t : Int) (l st : List Int) (n : Int) : Option Df := (List.range 20).findSome? fun i : Nat => diff2 t l st n ((i : Int) + 1)
def diffE (t : Int) (l st : List Int) (n : Int) : Df × Int :=
  if headOk t l = false then (⟨0, ⟨0, 0, 0⟩, ⟨0, 0, 0, 0⟩, false⟩, 10) else if inB n 1 2000 = false then (⟨0, ⟨0, 0, 0⟩, ⟨0, 0, 0, 0⟩, false⟩, 11) else if stockOk1 st = false then (⟨0, ⟨0, 0, 0⟩, ⟨0, 0, 0, 0⟩, false⟩, 13) else
    match diffP t l st n with
    | none => (⟨0, ⟨0, 0, 0⟩, ⟨0, 0, 0, 0⟩, false⟩, 4)
    | some x => (x, 0)
/-- Prefixes of a search. -/
def fsTo {α : Type} (f : Nat → Option α) (k : Nat) : Option α := (List.range k).findSome? f
theorem fsTo_succ {α : Type} (f : Nat → Option α) (k : Nat) : fsTo f (k + 1) = match fsTo f k with
    | some x => some x
    | none => f k := by
  unfold fsTo
  rw [List.range_succ, List.findSome?_append]
  cases (List.range k).findSome? f with
  | some x => rfl
  | none => simp
theorem fsTo_hit {α : Type} {f : Nat → Option α} {n k : Nat} {x : α} (h0 : fsTo f k = none) (hk : k < n) (h1 : f k = some x) : fsTo f n = some x := by
  have h2 : fsTo f (k + 1) = some x := by rw [fsTo_succ, h0]; exact h1
  clear h0 h1
  induction n with
  | zero => omega
  | succ n ih =>
    by_cases hkn : k = n
    · subst hkn; exact h2
    · rw [fsTo_succ, ih (by omega)]
theorem fsTo_some {α : Type} {f : Nat → Option α} {n : Nat} {x : α} (h : fsTo f n = some x) : ∃ k, k < n ∧ fsTo f k = none ∧ f k = some x := by
  induction n with
  | zero => simp [fsTo] at h
  | succ n ih =>
    rw [fsTo_succ] at h
    cases h' : fsTo f n with
    | some y =>
      rw [h'] at h
      obtain ⟨k, h1, h2, h3⟩ := ih (by rw [h']; exact h)
      exact ⟨k, by omega, h2, h3⟩
    | none => rw [h'] at h; exact ⟨n, by omega, h', h⟩
theorem fsTo_none {α : Type} {f : Nat → Option α} {n : Nat} : fsTo f n = none ↔ ∀ k, k < n → f k = none := by
  unfold fsTo
  rw [List.findSome?_eq_none_iff]
  simp
/-- The specification's search. -/
def r2 (st : List Int) (p q : Int) (a b : Nat) : Option Tn := if a ≠ b ∧ nthI st a * q = nthI st b * p then some ⟨a, b, -1, -1⟩ else none
def r4 (st : List Int) (p q : Int) (a b c d : Nat) : Option Tn :=
  if (a ≠ b ∧ a ≠ c ∧ a ≠ d ∧ b ≠ c ∧ b ≠ d ∧ c ≠ d) ∧ nthI st a * nthI st c * q = nthI st b * nthI st d * p then some ⟨a, b, c, d⟩ else none
def trainR (st : List Int) (p q : Int) : Option Tn := match fsTo (fun a => fsTo (r2 st p q a) st.length) st.length with
  | some t => some t
  | none => fsTo (fun a => fsTo (fun b => fsTo (fun c => fsTo (r4 st p q a b c) st.length) st.length) st.length) st.length
theorem srch_map (st : List Int) (p q : Int) (d : Nat) (l : List Int) : (srch st p q (d + 1) l).map tnOf = fsTo (fun i => if l.contains (i : Int) then none else (srch st p q d (l ++ [(i : Int)])).map tnOf) st.length := by
  unfold fsTo
  rw [srch, List.map_findSome?]
  congr 1
  funext i
  simp only [Function.comp]
  split <;> rfl
theorem fsTo_congr {α : Type} {f g : Nat → Option α} {n : Nat} (h : ∀ k, k < n → f k = g k) : fsTo f n = fsTo g n := by
  induction n with
  | zero => rfl
  | succ n ih => rw [fsTo_succ, fsTo_succ, ih fun k hk => h k (by omega), h n (by omega)]
theorem srch0 (st : List Int) (p q : Int) (l : List Int) : (srch st p q 0 l).map tnOf = if fitsL st p q l = true then some (tnOf l) else none := by
  unfold srch; split <;> rfl
theorem train_ref (st : List Int) (p q : Int) : trainR st p q = trainP st p q := by
  have h2 : (srch st p q 2 []).map tnOf = fsTo (fun a => fsTo (r2 st p q a) st.length) st.length := by
    rw [srch_map]
    refine fsTo_congr fun a _ => ?_
    rw [if_neg (by simp), srch_map]
    refine fsTo_congr fun b _ => ?_
    rw [srch0]
    simp only [List.nil_append, List.cons_append, List.contains_cons, List.contains_nil, Bool.or_false, fitsL, drvL, tnOf, r2, beq_iff_eq]
    rw [Int.mul_comm q, Int.mul_comm p]
    by_cases hab : a = b
    · subst hab; simp
    · have hab' : ¬ (b : Int) = a := by omega
      simp [hab, hab']
  have h4 : (srch st p q 4 []).map tnOf = fsTo (fun a => fsTo (fun b => fsTo (fun c => fsTo (r4 st p q a b c) st.length) st.length) st.length) st.length := by
    rw [srch_map]
    refine fsTo_congr fun a _ => ?_
    rw [if_neg (by simp), srch_map]
    refine fsTo_congr fun b _ => ?_
    by_cases hab : a = b
    · subst hab
      simp only [List.nil_append, List.contains_cons, List.contains_nil, Bool.or_false, beq_self_eq_true, if_true]
      symm
      rw [fsTo_none]; intro c _
      rw [fsTo_none]; intro d _
      simp [r4]
    · have hab' : ¬ (b : Int) = a := by omega
      rw [if_neg (by simpa using hab'), srch_map]
      refine fsTo_congr fun c _ => ?_
      by_cases hc : c = a ∨ c = b
      · rw [if_pos (by rcases hc with rfl | rfl <;> simp)]
        symm
        rw [fsTo_none]; intro d _
        unfold r4; rw [if_neg]; rintro ⟨h, _⟩; omega
      · rw [if_neg (by simp; omega), srch_map]
        refine fsTo_congr fun d _ => ?_
        by_cases hd : d = a ∨ d = b ∨ d = c
        · rw [if_pos (by rcases hd with rfl | rfl | rfl <;> simp)]
          symm
          unfold r4; rw [if_neg]; rintro ⟨h, _⟩; omega
        · rw [if_neg (by simp; omega), srch0]
          simp only [List.nil_append, List.cons_append, fitsL, drvL, tnOf, r4, beq_iff_eq]
          have e : (nthI st a * nthI st c * q = nthI st b * nthI st d * p) ↔ (q * nthI st a * nthI st c = p * nthI st b * nthI st d) := by
            rw [Int.mul_comm _ q, Int.mul_comm _ p, Int.mul_assoc, Int.mul_assoc]
          have hx : (a ≠ b ∧ a ≠ c ∧ a ≠ d ∧ b ≠ c ∧ b ≠ d ∧ c ≠ d) := by omega
          by_cases hp : q * nthI st a * nthI st c = p * nthI st b * nthI st d
          · rw [if_pos hp, if_pos ⟨hx, e.2 hp⟩]
          · rw [if_neg hp, if_neg fun h => hp (e.1 h.2)]
  unfold trainR trainP
  rw [← h2, ← h4]
  cases srch st p q 2 [] <;> rfl
end Go.Oc.Ix

/- Part Iu0. -/
namespace Go.Oc.Ix
end Go.Oc.Ix
namespace Go.Proofs.Ytadkjjnnnkfalaa.Ix
end Go.Proofs.Ytadkjjnnnkfalaa.Ix
namespace Go.Oc.Ix
open Go Go.Pm
/-- So far all is well, and the last circle. -/
def chkTo (t : Int) (l : List Int) (k : Nat) : Bool := circTo (inB t 1 400 && inB l.length 1 12) 1 (l.take k)
def lastTo (l : List Int) : Nat → Int
  | 0 => 1
  | k + 1 => nthI l k
theorem circTo_snoc : ∀ (ok : Bool) (a : Int) (l : List Int) (x : Int), circTo ok a (l ++ [x]) = (circTo ok a l && inB x (IntKind.i64.wrap ((l.getLast?.getD a) + 1)) 200)
  | ok, a, [], x => rfl
  | ok, a, [y], x => rfl
  | ok, a, y :: z :: l, x => by
    rw [List.cons_append, circTo, circTo_snoc _ y (z :: l) x, circTo, List.getLast?_cons_cons]
    rfl
theorem chkTo_succ {t : Int} {l : List Int} {k : Nat} {x : Int} (h : l[k]? = some x) : chkTo t l (k + 1) = (chkTo t l k && inB x (IntKind.i64.wrap (lastTo l k + 1)) 200) := by
  unfold chkTo
  rw [take_snoc h, circTo_snoc]
  congr 4
  cases k with
  | zero => rfl
  | succ k =>
    have hk := (List.getElem?_eq_some_iff.1 h).1
    have hx : l[k]? = some l[k] := List.getElem?_eq_getElem (by omega)
    rw [take_snoc hx, List.getLast?_concat]
    show l[k] = nthI l k
    rw [nthI_at hx]
theorem chkTo_all (t : Int) (l : List Int) : chkTo t l l.length = headOk t l := by
  unfold chkTo headOk
  rw [List.take_length, circTo_eq _ (by omega), Bool.and_assoc]
end Go.Oc.Ix
namespace Go.Proofs.Ytadkjjnnnkfalaa.Ix
open Go.RowKit Go.Pm Go.Oc Go.Oc.Ix
set_option maxRecDepth 100000
set_option linter.unusedVariables false
set_option maxHeartbeats 4000000

theorem iWithin_c (n lo hi : Int) : PCalls Try.prog 82 [.int .i64 n, .int .i64 lo, .int .i64 hi] (.bool (inB n lo hi)) := by
  refine pcalls_by Try.mixes noSpec_ok (fn := Try.f82) Try.func82 rfl (by kernel_rfl) (by show 3 ≤ _; decide) ?_
  simp (decide := true) (maxSteps := 4000000) only [go_sem, Nat.reduceAdd, Nat.reduceSub, Nat.reduceMul, Nat.reduceDiv, Nat.reduceMod, Nat.reduceLT, Nat.reduceLeDiff, Nat.reduceEqDiff, Nat.reduceBEq, Nat.reduceBNe, Nat.reduceGT, Int.reduceAdd, Int.reduceSub, Int.reduceMul, Int.reduceNeg, Int.reduceLT, Int.reduceLE, Int.reduceEq, Int.reduceNe, Int.reduceBEq, Int.reduceBNe, Int.reduceToNat, Int.reduceGT, Int.reduceGE, ↓reduceIte, decide_true, decide_false, eq_self, Nat.mul_one, Nat.zero_mul, Nat.one_mul, Int.le_refl, Nat.le_refl, Int.cast_ofNat_Int, Try.f82, inB]
noncomputable def ixWithin : List TV → Option TV
  | [.int .i64 n, .int .i64 a, .int .i64 b] => some (.bool (inB n a b))
  | _ => none
theorem ixWithin_ok : ∀ xs r, ixWithin xs = some r → PCalls Try.prog 82 xs r := by
  intro xs r h
  unfold ixWithin at h
  split at h
  · cases h; exact iWithin_c _ _ _
  · cases h
attribute [go_sem] ixWithin
noncomputable def spU1 : Pm.Spec := noSpec.one 82 ixWithin
@[go_sem] theorem spU1_p (f : FuncId) (xs : List TV) : spU1.p f xs = Pm.Spec.p (noSpec.one 82 ixWithin) f xs := rfl
@[go_sem] theorem spU1_h (f : FuncId) (ps : List PV) (hl : List PO) : spU1.h f ps hl = Pm.Spec.h (noSpec.one 82 ixWithin) f ps hl := rfl
@[go_sem] theorem spU1_y (Y : Pm.YS) (f : FuncId) (ps : List PV) (hl : List PO) : spU1.y Y f ps hl = Pm.Spec.y (noSpec.one 82 ixWithin) Y f ps hl := rfl
@[go_sem] theorem spU1_fz (f : FuncId) : spU1.fz f = Pm.Spec.fz (noSpec.one 82 ixWithin) f := rfl
@[go_sem] theorem spU1_fr (f : FuncId) : spU1.fr f = Pm.Spec.fr (noSpec.one 82 ixWithin) f := rfl
@[go_sem] theorem spU1_yf (f : FuncId) : spU1.yf f = Pm.Spec.yf (noSpec.one 82 ixWithin) f := rfl
@[go_sem] theorem spU1_mu (t : TypeId) : spU1.mu t = Pm.Spec.mu (noSpec.one 82 ixWithin) t := rfl
@[go_sem] theorem spU1_nf (t : TypeId) : spU1.nf t = Pm.Spec.nf (noSpec.one 82 ixWithin) t := rfl
theorem spU1_ok : SpecOk Try.prog spU1 := Spec.one_ok ixWithin_ok noSpec_ok
theorem iCheck_c (t : Int) {l : List Int} {s : TV} (hl : IsRow ic s l) (hll : l.length ≤ 17592186044415) : PCalls Try.prog 115 [.agg [.int .i64 t, s]] (.int .i64 (if headOk t l then 0 else 10)) := by
  have h0 : chkTo t l 0 = (inB t 1 400 && inB l.length 1 12) := rfl
  have hall := chkTo_all t l
  have fin : ∀ b : Bool, headOk t l = b → headOk t l = b := fun _ h => h
  refine pcalls_by Try.mixes spU1_ok (fn := Try.f115) Try.func115 rfl (by kernel_rfl) (by show 1 ≤ _; decide) ?_
  rcases hl with ⟨rfl, rfl⟩ | ⟨f, rfl⟩
  · cases h1 : inB t 1 400 <;> simp (decide := true) (maxSteps := 4000000) only [go_sem, Nat.reduceAdd, Nat.reduceSub, Nat.reduceMul, Nat.reduceDiv, Nat.reduceMod, Nat.reduceLT, Nat.reduceLeDiff, Nat.reduceEqDiff, Nat.reduceBEq, Nat.reduceBNe, Nat.reduceGT, Int.reduceAdd, Int.reduceSub, Int.reduceMul, Int.reduceNeg, Int.reduceLT, Int.reduceLE, Int.reduceEq, Int.reduceNe, Int.reduceBEq, Int.reduceBNe, Int.reduceToNat, Int.reduceGT, Int.reduceGE, ↓reduceIte, decide_true, decide_false, eq_self, Nat.mul_one, Nat.zero_mul, Nat.one_mul, Int.le_refl, Nat.le_refl, Int.cast_ofNat_Int, Try.f115, h1]
    all_goals refine pwpC_loopU (A := Unit) [1, 17, 18] (fun _ => [(19, .t (.int .i64 0)), (3, .t (.bool false)), (4, .t (.int .i64 1))]) (fun _ => []) (fun _ => 0) () (by decide) (fun _ => by rfl) ?_ fun Q1 hQ1 _ I1 hI1 => ?_
    all_goals first
      | (simp (decide := true) (maxSteps := 4000000) only [go_sem, Nat.reduceAdd, Nat.reduceSub, Nat.reduceMul, Nat.reduceDiv, Nat.reduceMod, Nat.reduceLT, Nat.reduceLeDiff, Nat.reduceEqDiff, Nat.reduceBEq, Nat.reduceBNe, Nat.reduceGT, Int.reduceAdd, Int.reduceSub, Int.reduceMul, Int.reduceNeg, Int.reduceLT, Int.reduceLE, Int.reduceEq, Int.reduceNe, Int.reduceBEq, Int.reduceBNe, Int.reduceToNat, Int.reduceGT, Int.reduceGE, ↓reduceIte, decide_true, decide_false, eq_self, Nat.mul_one, Nat.zero_mul, Nat.one_mul, Int.le_refl, Nat.le_refl, Int.cast_ofNat_Int, inB]; done)
      | (simp (decide := true) (maxSteps := 4000000) only [go_sem, Nat.reduceAdd, Nat.reduceSub, Nat.reduceMul, Nat.reduceDiv, Nat.reduceMod, Nat.reduceLT, Nat.reduceLeDiff, Nat.reduceEqDiff, Nat.reduceBEq, Nat.reduceBNe, Nat.reduceGT, Int.reduceAdd, Int.reduceSub, Int.reduceMul, Int.reduceNeg, Int.reduceLT, Int.reduceLE, Int.reduceEq, Int.reduceNe, Int.reduceBEq, Int.reduceBNe, Int.reduceToNat, Int.reduceGT, Int.reduceGE, ↓reduceIte, decide_true, decide_false, eq_self, Nat.mul_one, Nat.zero_mul, Nat.one_mul, Int.le_refl, Nat.le_refl, Int.cast_ofNat_Int]
         refine hQ1 _ _ ?_
         have e : headOk t [] = false := by simp [headOk, inB]
         simp (decide := true) (maxSteps := 4000000) only [go_sem, Nat.reduceAdd, Nat.reduceSub, Nat.reduceMul, Nat.reduceDiv, Nat.reduceMod, Nat.reduceLT, Nat.reduceLeDiff, Nat.reduceEqDiff, Nat.reduceBEq, Nat.reduceBNe, Nat.reduceGT, Int.reduceAdd, Int.reduceSub, Int.reduceMul, Int.reduceNeg, Int.reduceLT, Int.reduceLE, Int.reduceEq, Int.reduceNe, Int.reduceBEq, Int.reduceBNe, Int.reduceToNat, Int.reduceGT, Int.reduceGE, ↓reduceIte, decide_true, decide_false, eq_self, Nat.mul_one, Nat.zero_mul, Nat.one_mul, Int.le_refl, Nat.le_refl, Int.cast_ofNat_Int, e])
  · rw [ic_ints]
    cases h1 : inB t 1 400 <;> cases h2 : inB (l.length : Int) 1 12 <;> simp (decide := true) (maxSteps := 4000000) only [go_sem, Nat.reduceAdd, Nat.reduceSub, Nat.reduceMul, Nat.reduceDiv, Nat.reduceMod, Nat.reduceLT, Nat.reduceLeDiff, Nat.reduceEqDiff, Nat.reduceBEq, Nat.reduceBNe, Nat.reduceGT, Int.reduceAdd, Int.reduceSub, Int.reduceMul, Int.reduceNeg, Int.reduceLT, Int.reduceLE, Int.reduceEq, Int.reduceNe, Int.reduceBEq, Int.reduceBNe, Int.reduceToNat, Int.reduceGT, Int.reduceGE, ↓reduceIte, decide_true, decide_false, eq_self, Nat.mul_one, Nat.zero_mul, Nat.one_mul, Int.le_refl, Nat.le_refl, Int.cast_ofNat_Int, Try.f115, h1, h2]
    all_goals
      refine pwpC_loopU (A := { k : Nat // k ≤ l.length }) [1, 17, 18] (fun k => [(19, .t (.int .i64 k.1)), (3, .t (.bool (chkTo t l k.1))), (4, .t (.int .i64 (lastTo l k.1)))]) (fun _ => []) (fun k => l.length - k.1) ⟨0, by omega⟩ (by decide) (fun _ => by rfl) ?_ fun Q1 hQ1 ⟨k, hk⟩ I1 hI1 => ?_
      · simp (decide := true) (maxSteps := 4000000) only [go_sem, Nat.reduceAdd, Nat.reduceSub, Nat.reduceMul, Nat.reduceDiv, Nat.reduceMod, Nat.reduceLT, Nat.reduceLeDiff, Nat.reduceEqDiff, Nat.reduceBEq, Nat.reduceBNe, Nat.reduceGT, Int.reduceAdd, Int.reduceSub, Int.reduceMul, Int.reduceNeg, Int.reduceLT, Int.reduceLE, Int.reduceEq, Int.reduceNe, Int.reduceBEq, Int.reduceBNe, Int.reduceToNat, Int.reduceGT, Int.reduceGE, ↓reduceIte, decide_true, decide_false, eq_self, Nat.mul_one, Nat.zero_mul, Nat.one_mul, Int.le_refl, Nat.le_refl, Int.cast_ofNat_Int, h0, h1, h2, lastTo]
      · by_cases hlt : (k : Int) < l.length
        · obtain ⟨x, hx⟩ := get_lt hlt
          have hd := ints_at hx
          rw [Nat.mul_one] at hd
          have hc1 : IntKind.i64.wrap (k + 1) = ((k + 1 : Nat) : Int) := by rw [wrap_in (by omega) (by omega)]; omega
          have hs := chkTo_succ (t := t) hx
          have hn : lastTo l (k + 1) = x := nthI_at hx
          cases hok : chkTo t l k <;> rw [hok] at hs <;> simp (decide := true) (maxSteps := 4000000) only [go_sem, Nat.reduceAdd, Nat.reduceSub, Nat.reduceMul, Nat.reduceDiv, Nat.reduceMod, Nat.reduceLT, Nat.reduceLeDiff, Nat.reduceEqDiff, Nat.reduceBEq, Nat.reduceBNe, Nat.reduceGT, Int.reduceAdd, Int.reduceSub, Int.reduceMul, Int.reduceNeg, Int.reduceLT, Int.reduceLE, Int.reduceEq, Int.reduceNe, Int.reduceBEq, Int.reduceBNe, Int.reduceToNat, Int.reduceGT, Int.reduceGE, ↓reduceIte, decide_true, decide_false, eq_self, Nat.mul_one, Nat.zero_mul, Nat.one_mul, Int.le_refl, Nat.le_refl, Int.cast_ofNat_Int, hlt, hd, hok]
          all_goals refine hI1 _ ⟨k + 1, by omega⟩ (by simp only; omega) ?_
          all_goals simp (decide := true) (maxSteps := 4000000) only [go_sem, Nat.reduceAdd, Nat.reduceSub, Nat.reduceMul, Nat.reduceDiv, Nat.reduceMod, Nat.reduceLT, Nat.reduceLeDiff, Nat.reduceEqDiff, Nat.reduceBEq, Nat.reduceBNe, Nat.reduceGT, Int.reduceAdd, Int.reduceSub, Int.reduceMul, Int.reduceNeg, Int.reduceLT, Int.reduceLE, Int.reduceEq, Int.reduceNe, Int.reduceBEq, Int.reduceBNe, Int.reduceToNat, Int.reduceGT, Int.reduceGE, ↓reduceIte, decide_true, decide_false, eq_self, Nat.mul_one, Nat.zero_mul, Nat.one_mul, Int.le_refl, Nat.le_refl, Int.cast_ofNat_Int, hc1, hs, hn]
        · have hke : k = l.length := by omega
          subst hke
          simp (decide := true) (maxSteps := 4000000) only [go_sem, Nat.reduceAdd, Nat.reduceSub, Nat.reduceMul, Nat.reduceDiv, Nat.reduceMod, Nat.reduceLT, Nat.reduceLeDiff, Nat.reduceEqDiff, Nat.reduceBEq, Nat.reduceBNe, Nat.reduceGT, Int.reduceAdd, Int.reduceSub, Int.reduceMul, Int.reduceNeg, Int.reduceLT, Int.reduceLE, Int.reduceEq, Int.reduceNe, Int.reduceBEq, Int.reduceBNe, Int.reduceToNat, Int.reduceGT, Int.reduceGE, ↓reduceIte, decide_true, decide_false, eq_self, Nat.mul_one, Nat.zero_mul, Nat.one_mul, Int.le_refl, Nat.le_refl, Int.cast_ofNat_Int, hlt]
          refine hQ1 _ _ ?_
          rw [hall]
          cases h3 : headOk t l <;> simp (decide := true) (maxSteps := 4000000) only [go_sem, Nat.reduceAdd, Nat.reduceSub, Nat.reduceMul, Nat.reduceDiv, Nat.reduceMod, Nat.reduceLT, Nat.reduceLeDiff, Nat.reduceEqDiff, Nat.reduceBEq, Nat.reduceBNe, Nat.reduceGT, Int.reduceAdd, Int.reduceSub, Int.reduceMul, Int.reduceNeg, Int.reduceLT, Int.reduceLE, Int.reduceEq, Int.reduceNe, Int.reduceBEq, Int.reduceBNe, Int.reduceToNat, Int.reduceGT, Int.reduceGE, ↓reduceIte, decide_true, decide_false, eq_self, Nat.mul_one, Nat.zero_mul, Nat.one_mul, Int.le_refl, Nat.le_refl, Int.cast_ofNat_Int, h3]
noncomputable def ixCheck : List TV → Option TV
  | [.agg [.int .i64 t, s]] => match rowL unI s with
    | some l => if l.length ≤ 17592186044415 then some (.int .i64 (if headOk t l then 0 else 10)) else none
    | none => none
  | _ => none
theorem ixCheck_ok : ∀ xs r, ixCheck xs = some r → PCalls Try.prog 115 xs r := by
  intro xs r h
  unfold ixCheck at h
  split at h
  · split at h
    · rename_i l hl
      have hl := rowL_some (un := unI) (by first | rfl | exact unI_nil) (@unI_some) hl
      split at h
      · rename_i hc; cases h; exact iCheck_c _ hl hc
      · cases h
    · cases h
  · cases h
attribute [go_sem] ixCheck
noncomputable def spU2 : Pm.Spec := spU1.one 115 ixCheck
@[go_sem] theorem spU2_p (f : FuncId) (xs : List TV) : spU2.p f xs = Pm.Spec.p (spU1.one 115 ixCheck) f xs := rfl
@[go_sem] theorem spU2_h (f : FuncId) (ps : List PV) (hl : List PO) : spU2.h f ps hl = Pm.Spec.h (spU1.one 115 ixCheck) f ps hl := rfl
@[go_sem] theorem spU2_y (Y : Pm.YS) (f : FuncId) (ps : List PV) (hl : List PO) : spU2.y Y f ps hl = Pm.Spec.y (spU1.one 115 ixCheck) Y f ps hl := rfl
@[go_sem] theorem spU2_fz (f : FuncId) : spU2.fz f = Pm.Spec.fz (spU1.one 115 ixCheck) f := rfl
@[go_sem] theorem spU2_fr (f : FuncId) : spU2.fr f = Pm.Spec.fr (spU1.one 115 ixCheck) f := rfl
@[go_sem] theorem spU2_yf (f : FuncId) : spU2.yf f = Pm.Spec.yf (spU1.one 115 ixCheck) f := rfl
@[go_sem] theorem spU2_mu (t : TypeId) : spU2.mu t = Pm.Spec.mu (spU1.one 115 ixCheck) t := rfl
@[go_sem] theorem spU2_nf (t : TypeId) : spU2.nf t = Pm.Spec.nf (spU1.one 115 ixCheck) t := rfl
theorem spU2_ok : SpecOk Try.prog spU2 := Spec.one_ok ixCheck_ok spU1_ok
/-- A head that is opened: the head, the error. -/
def openE (t : Int) (l : List Int) (n most : Int) : Int := if headOk t l = false then 10 else if inB n 1 most = false then 11 else 0
theorem iOpened_c (t : Int) {l : List Int} {s : TV} (hl : IsRow ic s l) (hll : l.length ≤ 17592186044415) (n most : Int) : PCalls Try.prog 78 [.agg [.int .i64 t, s], .int .i64 n, .int .i64 most]
    (.tup [if openE t l n most = 0 then .agg [.int .i64 t, s] else .agg [.int .i64 0, .nilSl], .int .i64 (openE t l n most)]) := by
  have rI := rowI_is hl
  unfold rowL at rI
  unfold openE
  refine pcalls_by Try.mixes spU2_ok (fn := Try.f78) Try.func78 rfl (by kernel_rfl) (by show 3 ≤ _; decide) ?_
  cases h1 : headOk t l
  · simp (decide := true) (maxSteps := 4000000) only [go_sem, Nat.reduceAdd, Nat.reduceSub, Nat.reduceMul, Nat.reduceDiv, Nat.reduceMod, Nat.reduceLT, Nat.reduceLeDiff, Nat.reduceEqDiff, Nat.reduceBEq, Nat.reduceBNe, Nat.reduceGT, Int.reduceAdd, Int.reduceSub, Int.reduceMul, Int.reduceNeg, Int.reduceLT, Int.reduceLE, Int.reduceEq, Int.reduceNe, Int.reduceBEq, Int.reduceBNe, Int.reduceToNat, Int.reduceGT, Int.reduceGE, ↓reduceIte, decide_true, decide_false, eq_self, Nat.mul_one, Nat.zero_mul, Nat.one_mul, Int.le_refl, Nat.le_refl, Int.cast_ofNat_Int, Try.f78, rI, hll, h1]
  · cases h2 : inB n 1 most <;> simp (decide := true) (maxSteps := 4000000) only [go_sem, Nat.reduceAdd, Nat.reduceSub, Nat.reduceMul, Nat.reduceDiv, Nat.reduceMod, Nat.reduceLT, Nat.reduceLeDiff, Nat.reduceEqDiff, Nat.reduceBEq, Nat.reduceBNe, Nat.reduceGT, Int.reduceAdd, Int.reduceSub, Int.reduceMul, Int.reduceNeg, Int.reduceLT, Int.reduceLE, Int.reduceEq, Int.reduceNe, Int.reduceBEq, Int.reduceBNe, Int.reduceToNat, Int.reduceGT, Int.reduceGE, ↓reduceIte, decide_true, decide_false, eq_self, Nat.mul_one, Nat.zero_mul, Nat.one_mul, Int.le_refl, Nat.le_refl, Int.cast_ofNat_Int, Try.f78, rI, hll, h1, h2]
noncomputable def ixOpened : List TV → Option TV
  | [.agg [.int .i64 t, s], .int .i64 n, .int .i64 most] => match rowL unI s with
    | some l => if l.length ≤ 17592186044415 then some (.tup [if openE t l n most = 0 then .agg [.int .i64 t, s] else .agg [.int .i64 0, .nilSl], .int .i64 (openE t l n most)]) else none
    | none => none
  | _ => none
theorem ixOpened_ok : ∀ xs r, ixOpened xs = some r → PCalls Try.prog 78 xs r := by
  intro xs r h
  unfold ixOpened at h
  split at h
  · split at h
    · rename_i l hl
      have hl := rowL_some (un := unI) rfl (@unI_some) hl
      split at h
      · rename_i hc; cases h; exact iOpened_c _ hl hc _ _
      · cases h
    · cases h
  · cases h
attribute [go_sem] ixOpened
noncomputable def spU3 : Pm.Spec := spU2.one 78 ixOpened
@[go_sem] theorem spU3_p (f : FuncId) (xs : List TV) : spU3.p f xs = Pm.Spec.p (spU2.one 78 ixOpened) f xs := rfl
@[go_sem] theorem spU3_h (f : FuncId) (ps : List PV) (hl : List PO) : spU3.h f ps hl = Pm.Spec.h (spU2.one 78 ixOpened) f ps hl := rfl
@[go_sem] theorem spU3_y (Y : Pm.YS) (f : FuncId) (ps : List PV) (hl : List PO) : spU3.y Y f ps hl = Pm.Spec.y (spU2.one 78 ixOpened) Y f ps hl := rfl
@[go_sem] theorem spU3_fz (f : FuncId) : spU3.fz f = Pm.Spec.fz (spU2.one 78 ixOpened) f := rfl
@[go_sem] theorem spU3_fr (f : FuncId) : spU3.fr f = Pm.Spec.fr (spU2.one 78 ixOpened) f := rfl
@[go_sem] theorem spU3_yf (f : FuncId) : spU3.yf f = Pm.Spec.yf (spU2.one 78 ixOpened) f := rfl
@[go_sem] theorem spU3_mu (t : TypeId) : spU3.mu t = Pm.Spec.mu (spU2.one 78 ixOpened) t := rfl
@[go_sem] theorem spU3_nf (t : TypeId) : spU3.nf t = Pm.Spec.nf (spU2.one 78 ixOpened) t := rfl
theorem spU3_ok : SpecOk Try.prog spU3 := Spec.one_ok ixOpened_ok spU2_ok
end Go.Proofs.Ytadkjjnnnkfalaa.Ix

/- Part Iz. -/
namespace Go.Oc.Ix
end Go.Oc.Ix
namespace Go.Proofs.Ytadkjjnnnkfalaa.Ix
end Go.Proofs.Ytadkjjnnnkfalaa.Ix
namespace Go.Oc.Ix
open Go Go.Pm
set_option maxRecDepth 100000
def placesTo (all n : Int) (m : Nat) : List Int := (List.range m).map fun k : Nat => placeP all n k
theorem placesTo_succ (all n : Int) (m : Nat) : placesTo all n (m + 1) = placesTo all n m ++ [placeP all n m] := by
  unfold placesTo; rw [List.range_succ, List.map_append]; rfl
theorem placesTo_len (all n : Int) (m : Nat) : (placesTo all n m).length = m := by simp [placesTo]
theorem ints_snoc (l : List Int) (x : Int) : ints (l ++ [x]) = ints l ++ [.int .i64 x] := by simp [ints]
theorem allB0 {t : Int} {l : List Int} (hh : headOk t l = true) {c : Nat} {h : Int} (hx : l[c]? = some h) : 1 ≤ t * h ∧ t * h ≤ 80000 := by
  have hh' := headOk_iff.1 hh
  have hb := head_at hh hx
  have m1 := mulB (a := t) (b := h) (A := 400) (B := 200) (by omega) (by omega) (by omega) (by omega)
  have := Int.mul_pos (show 0 < t by omega) (show 0 < h by omega)
  omega
end Go.Oc.Ix
namespace Go.Proofs.Ytadkjjnnnkfalaa.Ix
open Go.RowKit Go.Pm Go.Oc Go.Oc.Ix
set_option maxRecDepth 100000
set_option linter.unusedVariables false
set_option maxHeartbeats 4000000

theorem iLine_c {all n k : Int} (hk0 : 0 ≤ k) (hk1 : k ≤ 2000) (hn : 1 ≤ n) (hn2 : n ≤ 2000) (ha : 0 ≤ all) (ha2 : all ≤ 80000) : PCalls Try.prog 116 [.int .i64 k, .int .i64 n, .int .i64 all] (.tup [.int .i64 (placeP all n k), .int .i64 (wrongP all n k)]) := by
  have m1 := mulB (a := k) (b := all) (A := 2000) (B := 80000) hk0 ha hk1 ha2
  have w1 : IntKind.i64.wrap (2 * k) = 2 * k := wrap_in (by omega) (by omega)
  have e1 : 2 * k * all = 2 * (k * all) := Int.mul_assoc ..
  have w2 : IntKind.i64.wrap (2 * k * all) = 2 * k * all := wrap_in (by omega) (by omega)
  have w3 : IntKind.i64.wrap (2 * k * all - n) = 2 * k * all - n := wrap_in (by omega) (by omega)
  have w4 : IntKind.i64.wrap (2 * n) = 2 * n := wrap_in (by omega) (by omega)
  have w5 : IntKind.i64.wrap (2 * k * all - n + 2 * n) = 2 * k * all - n + 2 * n := wrap_in (by omega) (by omega)
  have w6 : IntKind.i64.wrap (2 * k * all - n + 2 * n - 1) = 2 * k * all - n + 2 * n - 1 := wrap_in (by omega) (by omega)
  have hlp := line_place (all := all) (n := n) (k := k) (by omega) m1.1
  have hwb := wrong_bound (all := all) (n := n) (k := k) (by omega)
  have hwd : placeP all n k * n - k * all = wrongP all n k := rfl
  have hpb : 0 ≤ placeP all n k ∧ placeP all n k ≤ 320000000 := by
    have h4 : 0 ≤ k * all / n := Int.ediv_nonneg m1.1 (by omega)
    have h5 : k * all / n ≤ k * all := Int.ediv_le_self n m1.1
    unfold placeP; split <;> omega
  have w7 : IntKind.i64.wrap (placeP all n k) = placeP all n k := wrap_in (by omega) (by omega)
  have w8 : IntKind.i64.wrap (placeP all n k * n) = placeP all n k * n := wrap_in (by omega) (by omega)
  have w9 : IntKind.i64.wrap (k * all) = k * all := wrap_in (by omega) (by omega)
  have w10 : IntKind.i64.wrap (wrongP all n k) = wrongP all n k := wrap_in (by omega) (by omega)
  have hn0 : ¬ 2 * n = 0 := by omega
  refine pcalls_by Try.mixes noSpec_ok (fn := Try.f116) Try.func116 rfl (by kernel_rfl) (by show 3 ≤ _; decide) ?_
  simp (decide := true) (maxSteps := 4000000) only [go_sem, Nat.reduceAdd, Nat.reduceSub, Nat.reduceMul, Nat.reduceDiv, Nat.reduceMod, Nat.reduceLT, Nat.reduceLeDiff, Nat.reduceEqDiff, Nat.reduceBEq, Nat.reduceBNe, Nat.reduceGT, Int.reduceAdd, Int.reduceSub, Int.reduceMul, Int.reduceNeg, Int.reduceLT, Int.reduceLE, Int.reduceEq, Int.reduceNe, Int.reduceBEq, Int.reduceBNe, Int.reduceToNat, Int.reduceGT, Int.reduceGE, ↓reduceIte, decide_true, decide_false, eq_self, Nat.mul_one, Nat.zero_mul, Nat.one_mul, Int.le_refl, Nat.le_refl, Int.cast_ofNat_Int, Try.f116, w1, w2, w3, w4, w5, w6, hlp, w7, w8, w9, hwd, w10, hn0]
noncomputable def ixLine : List TV → Option TV
  | [.int .i64 k, .int .i64 n, .int .i64 a] => if (0 ≤ k ∧ k ≤ 2000) ∧ (1 ≤ n ∧ n ≤ 2000) ∧ 0 ≤ a ∧ a ≤ 80000 then some (.tup [.int .i64 (placeP a n k), .int .i64 (wrongP a n k)]) else none
  | _ => none
theorem ixLine_ok : ∀ xs r, ixLine xs = some r → PCalls Try.prog 116 xs r := by
  intro xs r h
  unfold ixLine at h
  split at h
  · split at h
    · rename_i hc; cases h; exact iLine_c hc.1.1 hc.1.2 hc.2.1.1 hc.2.1.2 hc.2.2.1 hc.2.2.2
    · cases h
  · cases h
attribute [go_sem] ixLine
noncomputable def spZ1 : Pm.Spec := spU3.one 116 ixLine
@[go_sem] theorem spZ1_p (f : FuncId) (xs : List TV) : spZ1.p f xs = Pm.Spec.p (spU3.one 116 ixLine) f xs := rfl
@[go_sem] theorem spZ1_h (f : FuncId) (ps : List PV) (hl : List PO) : spZ1.h f ps hl = Pm.Spec.h (spU3.one 116 ixLine) f ps hl := rfl
@[go_sem] theorem spZ1_y (Y : Pm.YS) (f : FuncId) (ps : List PV) (hl : List PO) : spZ1.y Y f ps hl = Pm.Spec.y (spU3.one 116 ixLine) Y f ps hl := rfl
@[go_sem] theorem spZ1_fz (f : FuncId) : spZ1.fz f = Pm.Spec.fz (spU3.one 116 ixLine) f := rfl
@[go_sem] theorem spZ1_fr (f : FuncId) : spZ1.fr f = Pm.Spec.fr (spU3.one 116 ixLine) f := rfl
@[go_sem] theorem spZ1_yf (f : FuncId) : spZ1.yf f = Pm.Spec.yf (spU3.one 116 ixLine) f := rfl
@[go_sem] theorem spZ1_mu (t : TypeId) : spZ1.mu t = Pm.Spec.mu (spU3.one 116 ixLine) t := rfl
@[go_sem] theorem spZ1_nf (t : TypeId) : spZ1.nf t = Pm.Spec.nf (spU3.one 116 ixLine) t := rfl
theorem spZ1_ok : SpecOk Try.prog spZ1 := Spec.one_ok ixLine_ok spU3_ok
theorem iCutH_c {t : Int} {l : List Int} (f : Bool) (hh : headOk t l = true) {n : Int} (hn : 1 ≤ n) (hn2 : n ≤ 2000) {c : Nat} (hc : c < l.length) :
    PCalls Try.prog 80 [.agg [.int .i64 t, .sl (ints l) l.length f], .int .i64 c, .int .i64 n] (.tup [.sl (ints (placesTo (t * nthI l c) n n.toNat)) n.toNat false, .int .i64 (faultP (t * nthI l c) n)]) := by
  have hx : l[c]? = some l[c] := List.getElem?_eq_getElem hc
  have hd := ints_at hx
  rw [Nat.mul_one] at hd
  have hb := allB0 hh hx
  have hn' := nthI_at hx
  rw [hn']
  generalize l[c] = h at *
  have hlc : (c : Int) < l.length := by omega
  have w1 : IntKind.i64.wrap (t * h) = t * h := wrap_in (by omega) (by omega)
  obtain ⟨A, hA⟩ : ∃ A, t * h = A := ⟨_, rfl⟩
  rw [hA] at w1 hb ⊢
  obtain ⟨N, hN⟩ := Int.eq_ofNat_of_zero_le (show 0 ≤ n by omega)
  subst hN
  have hA2 : (0 ≤ A ∧ A ≤ 80000) := by omega
  have hfp : faultP A N = faultTo A N N := by unfold faultP; rw [Int.toNat_natCast]
  rw [hfp, Int.toNat_natCast]
  have hc2 : (1 ≤ (N : Int) ∧ (N : Int) ≤ 2000) := by omega
  refine pcalls_by Try.mixes spZ1_ok (fn := Try.f80) Try.func80 rfl (by kernel_rfl) (by show 3 ≤ _; decide) ?_
  simp (decide := true) (maxSteps := 4000000) only [go_sem, Nat.reduceAdd, Nat.reduceSub, Nat.reduceMul, Nat.reduceDiv, Nat.reduceMod, Nat.reduceLT, Nat.reduceLeDiff, Nat.reduceEqDiff, Nat.reduceBEq, Nat.reduceBNe, Nat.reduceGT, Int.reduceAdd, Int.reduceSub, Int.reduceMul, Int.reduceNeg, Int.reduceLT, Int.reduceLE, Int.reduceEq, Int.reduceNe, Int.reduceBEq, Int.reduceBNe, Int.reduceToNat, Int.reduceGT, Int.reduceGE, ↓reduceIte, decide_true, decide_false, eq_self, Nat.mul_one, Nat.zero_mul, Nat.one_mul, Int.le_refl, Nat.le_refl, Int.cast_ofNat_Int, Try.f80, hlc, hd, hA, w1]
  refine pwpC_loopU (A := { m : Nat // m ≤ N }) [1, 2, 3, 8, 9, 23] (fun m => [(24, .t (.int .i64 m.1)), (6, .own (ints (placesTo A N m.1)) m.1 2), (7, .t (.int .i64 (faultTo A N m.1)))]) (fun m => [(1, .box [.t (.int .i64 (offTo A N m.1).1), .t (.int .i64 (offTo A N m.1).2)]), (2, .tok m.1 3)]) (fun m => N - m.1) ⟨0, by omega⟩ (by decide) (fun _ => by rfl) ?_ fun Q1 hQ1 ⟨m, hm⟩ I1 hI1 => ?_
  · simp (decide := true) (maxSteps := 4000000) only [go_sem, Nat.reduceAdd, Nat.reduceSub, Nat.reduceMul, Nat.reduceDiv, Nat.reduceMod, Nat.reduceLT, Nat.reduceLeDiff, Nat.reduceEqDiff, Nat.reduceBEq, Nat.reduceBNe, Nat.reduceGT, Int.reduceAdd, Int.reduceSub, Int.reduceMul, Int.reduceNeg, Int.reduceLT, Int.reduceLE, Int.reduceEq, Int.reduceNe, Int.reduceBEq, Int.reduceBNe, Int.reduceToNat, Int.reduceGT, Int.reduceGE, ↓reduceIte, decide_true, decide_false, eq_self, Nat.mul_one, Nat.zero_mul, Nat.one_mul, Int.le_refl, Nat.le_refl, Int.cast_ofNat_Int, placesTo, List.range_zero, List.map_nil, ints, faultTo, offTo, List.foldl_nil]
    first | done | exact ⟨⟨rfl, rfl⟩, rfl⟩ | exact ⟨rfl, rfl⟩ | rfl
  · by_cases hlt : (m : Int) < N
    · have hc1 : IntKind.i64.wrap (m + 1) = ((m + 1 : Nat) : Int) := by rw [wrap_in (by omega) (by omega)]; omega
      have c1 : (0 : Int) ≤ (m : Int) ∧ (m : Int) ≤ 2000 := by omega
      have hos := offTo_spec A N m
      have hou := offTo_succ A N m
      have hfu := faultTo_succ A N m
      have hwb := wrong_bound (all := A) (n := N) (k := m) (by omega)
      have hfb := faultTo_bound (all := A) (n := N) (by omega) m
      obtain ⟨⟨o1, o2⟩, hO⟩ : ∃ o, offTo A N m = o := ⟨_, rfl⟩
      rw [hO] at hos hou
      simp only at hos hou
      obtain ⟨w, hw⟩ : ∃ w, wrongP A N m = w := ⟨_, rfl⟩
      rw [hw] at hou hfu hwb
      have wo1 : IntKind.i64.wrap (o1 + 1) = o1 + 1 := wrap_in (by omega) (by omega)
      have wo2 : IntKind.i64.wrap (o2 + 1) = o2 + 1 := wrap_in (by omega) (by omega)
      have wn : IntKind.i64.wrap (0 - w) = -w := by rw [wrap_in (by omega) (by omega)]; omega
      have hmx : max (max (faultTo A N m) w) (-w) = faultTo A N (m + 1) := by rw [hfu]; unfold absI; omega
      have hil : (ints (placesTo A N m)).length = m := by rw [ints_len, placesTo_len]
      have hroom : (m + 1) * 8 ≤ 140737488355328 := by omega
      have hps : ints (placesTo A N (m + 1)) = ints (placesTo A N m) ++ [.int .i64 (placeP A N m)] := by rw [placesTo_succ, ints_snoc]
      by_cases h1 : w < 0
      · rw [if_pos h1] at hou
        simp (decide := true) (maxSteps := 4000000) only [go_sem, Nat.reduceAdd, Nat.reduceSub, Nat.reduceMul, Nat.reduceDiv, Nat.reduceMod, Nat.reduceLT, Nat.reduceLeDiff, Nat.reduceEqDiff, Nat.reduceBEq, Nat.reduceBNe, Nat.reduceGT, Int.reduceAdd, Int.reduceSub, Int.reduceMul, Int.reduceNeg, Int.reduceLT, Int.reduceLE, Int.reduceEq, Int.reduceNe, Int.reduceBEq, Int.reduceBNe, Int.reduceToNat, Int.reduceGT, Int.reduceGE, ↓reduceIte, decide_true, decide_false, eq_self, Nat.mul_one, Nat.zero_mul, Nat.one_mul, Int.le_refl, Nat.le_refl, Int.cast_ofNat_Int, hlt, c1, hc2, hA2, hw, h1, hO, wo1, wn, hmx, hil, hroom]
        refine hI1 _ ⟨m + 1, by omega⟩ (by simp only; omega) ?_
        simp (decide := true) (maxSteps := 4000000) only [go_sem, Nat.reduceAdd, Nat.reduceSub, Nat.reduceMul, Nat.reduceDiv, Nat.reduceMod, Nat.reduceLT, Nat.reduceLeDiff, Nat.reduceEqDiff, Nat.reduceBEq, Nat.reduceBNe, Nat.reduceGT, Int.reduceAdd, Int.reduceSub, Int.reduceMul, Int.reduceNeg, Int.reduceLT, Int.reduceLE, Int.reduceEq, Int.reduceNe, Int.reduceBEq, Int.reduceBNe, Int.reduceToNat, Int.reduceGT, Int.reduceGE, ↓reduceIte, decide_true, decide_false, eq_self, Nat.mul_one, Nat.zero_mul, Nat.one_mul, Int.le_refl, Nat.le_refl, Int.cast_ofNat_Int, hc1, hps, hou]
      · rw [if_neg h1] at hou
        by_cases h2 : w > 0
        · rw [if_pos h2] at hou
          simp (decide := true) (maxSteps := 4000000) only [go_sem, Nat.reduceAdd, Nat.reduceSub, Nat.reduceMul, Nat.reduceDiv, Nat.reduceMod, Nat.reduceLT, Nat.reduceLeDiff, Nat.reduceEqDiff, Nat.reduceBEq, Nat.reduceBNe, Nat.reduceGT, Int.reduceAdd, Int.reduceSub, Int.reduceMul, Int.reduceNeg, Int.reduceLT, Int.reduceLE, Int.reduceEq, Int.reduceNe, Int.reduceBEq, Int.reduceBNe, Int.reduceToNat, Int.reduceGT, Int.reduceGE, ↓reduceIte, decide_true, decide_false, eq_self, Nat.mul_one, Nat.zero_mul, Nat.one_mul, Int.le_refl, Nat.le_refl, Int.cast_ofNat_Int, hlt, c1, hc2, hA2, hw, h1, h2, hO, wo2, wn, hmx, hil, hroom]
          refine hI1 _ ⟨m + 1, by omega⟩ (by simp only; omega) ?_
          simp (decide := true) (maxSteps := 4000000) only [go_sem, Nat.reduceAdd, Nat.reduceSub, Nat.reduceMul, Nat.reduceDiv, Nat.reduceMod, Nat.reduceLT, Nat.reduceLeDiff, Nat.reduceEqDiff, Nat.reduceBEq, Nat.reduceBNe, Nat.reduceGT, Int.reduceAdd, Int.reduceSub, Int.reduceMul, Int.reduceNeg, Int.reduceLT, Int.reduceLE, Int.reduceEq, Int.reduceNe, Int.reduceBEq, Int.reduceBNe, Int.reduceToNat, Int.reduceGT, Int.reduceGE, ↓reduceIte, decide_true, decide_false, eq_self, Nat.mul_one, Nat.zero_mul, Nat.one_mul, Int.le_refl, Nat.le_refl, Int.cast_ofNat_Int, hc1, hps, hou]
        · rw [if_neg h2] at hou
          simp (decide := true) (maxSteps := 4000000) only [go_sem, Nat.reduceAdd, Nat.reduceSub, Nat.reduceMul, Nat.reduceDiv, Nat.reduceMod, Nat.reduceLT, Nat.reduceLeDiff, Nat.reduceEqDiff, Nat.reduceBEq, Nat.reduceBNe, Nat.reduceGT, Int.reduceAdd, Int.reduceSub, Int.reduceMul, Int.reduceNeg, Int.reduceLT, Int.reduceLE, Int.reduceEq, Int.reduceNe, Int.reduceBEq, Int.reduceBNe, Int.reduceToNat, Int.reduceGT, Int.reduceGE, ↓reduceIte, decide_true, decide_false, eq_self, Nat.mul_one, Nat.zero_mul, Nat.one_mul, Int.le_refl, Nat.le_refl, Int.cast_ofNat_Int, hlt, c1, hc2, hA2, hw, h1, h2, hO, wn, hmx, hil, hroom]
          refine hI1 _ ⟨m + 1, by omega⟩ (by simp only; omega) ?_
          simp (decide := true) (maxSteps := 4000000) only [go_sem, Nat.reduceAdd, Nat.reduceSub, Nat.reduceMul, Nat.reduceDiv, Nat.reduceMod, Nat.reduceLT, Nat.reduceLeDiff, Nat.reduceEqDiff, Nat.reduceBEq, Nat.reduceBNe, Nat.reduceGT, Int.reduceAdd, Int.reduceSub, Int.reduceMul, Int.reduceNeg, Int.reduceLT, Int.reduceLE, Int.reduceEq, Int.reduceNe, Int.reduceBEq, Int.reduceBNe, Int.reduceToNat, Int.reduceGT, Int.reduceGE, ↓reduceIte, decide_true, decide_false, eq_self, Nat.mul_one, Nat.zero_mul, Nat.one_mul, Int.le_refl, Nat.le_refl, Int.cast_ofNat_Int, hc1, hps, hou, hO]
    · have hme : m = N := by omega
      subst hme
      have hos := offTo_spec A m m
      have hm0 : ¬ m = 0 := by omega
      simp (decide := true) (maxSteps := 4000000) only [go_sem, Nat.reduceAdd, Nat.reduceSub, Nat.reduceMul, Nat.reduceDiv, Nat.reduceMod, Nat.reduceLT, Nat.reduceLeDiff, Nat.reduceEqDiff, Nat.reduceBEq, Nat.reduceBNe, Nat.reduceGT, Int.reduceAdd, Int.reduceSub, Int.reduceMul, Int.reduceNeg, Int.reduceLT, Int.reduceLE, Int.reduceEq, Int.reduceNe, Int.reduceBEq, Int.reduceBNe, Int.reduceToNat, Int.reduceGT, Int.reduceGE, ↓reduceIte, decide_true, decide_false, eq_self, Nat.mul_one, Nat.zero_mul, Nat.one_mul, Int.le_refl, Nat.le_refl, Int.cast_ofNat_Int, hlt]
      refine hQ1 _ _ ?_
      obtain ⟨⟨o1, o2⟩, hO⟩ : ∃ o, offTo A m m = o := ⟨_, rfl⟩
      rw [hO] at hos
      simp only at hos
      cases h1 : (o1 == 0 && o2 == 0) with
      | true =>
        simp only [Bool.and_eq_true, beq_iff_eq] at h1
        have hz := hos.2.2.2 h1
        obtain ⟨rfl, rfl⟩ := h1
        simp (decide := true) (maxSteps := 4000000) only [go_sem, Nat.reduceAdd, Nat.reduceSub, Nat.reduceMul, Nat.reduceDiv, Nat.reduceMod, Nat.reduceLT, Nat.reduceLeDiff, Nat.reduceEqDiff, Nat.reduceBEq, Nat.reduceBNe, Nat.reduceGT, Int.reduceAdd, Int.reduceSub, Int.reduceMul, Int.reduceNeg, Int.reduceLT, Int.reduceLE, Int.reduceEq, Int.reduceNe, Int.reduceBEq, Int.reduceBNe, Int.reduceToNat, Int.reduceGT, Int.reduceGE, ↓reduceIte, decide_true, decide_false, eq_self, Nat.mul_one, Nat.zero_mul, Nat.one_mul, Int.le_refl, Nat.le_refl, Int.cast_ofNat_Int, hO, hz, hm0]
      | false =>
        simp (decide := true) (maxSteps := 4000000) only [go_sem, Nat.reduceAdd, Nat.reduceSub, Nat.reduceMul, Nat.reduceDiv, Nat.reduceMod, Nat.reduceLT, Nat.reduceLeDiff, Nat.reduceEqDiff, Nat.reduceBEq, Nat.reduceBNe, Nat.reduceGT, Int.reduceAdd, Int.reduceSub, Int.reduceMul, Int.reduceNeg, Int.reduceLT, Int.reduceLE, Int.reduceEq, Int.reduceNe, Int.reduceBEq, Int.reduceBNe, Int.reduceToNat, Int.reduceGT, Int.reduceGE, ↓reduceIte, decide_true, decide_false, eq_self, Nat.mul_one, Nat.zero_mul, Nat.one_mul, Int.le_refl, Nat.le_refl, Int.cast_ofNat_Int, hO, h1, hm0]
noncomputable def ixCutH : List TV → Option TV
  | [.agg [.int .i64 t, .sl cs m f], .int .i64 c, .int .i64 n] => match unI cs with
    | some l => if m = l.length ∧ headOk t l = true ∧ (1 ≤ n ∧ n ≤ 2000) ∧ 0 ≤ c ∧ c < l.length then some (.tup [.sl (ints (placesTo (t * nthI l c) n n.toNat)) n.toNat false, .int .i64 (faultP (t * nthI l c) n)]) else none
    | none => none
  | _ => none
theorem ixCutH_ok : ∀ xs r, ixCutH xs = some r → PCalls Try.prog 80 xs r := by
  intro xs r h
  unfold ixCutH at h
  split at h
  · rename_i t cs m f c n
    split at h
    · rename_i l hl
      split at h
      · rename_i hc; cases h
        obtain ⟨rfl, h0, h1, h2⟩ := hc
        have e := unI_some hl
        rw [ic_ints] at e
        subst e
        have := iCutH_c f h0 h1.1 h1.2 (c := c.toNat) (by omega)
        rwa [Int.toNat_of_nonneg h2.1] at this
      · cases h
    · cases h
  · cases h
attribute [go_sem] ixCutH
theorem iEngr_c {t : Int} {l : List Int} (f : Bool) (hh : headOk t l = true) {n : Int} (hn : 1 ≤ n) (hn2 : n ≤ 2000) {c : Nat} (hc : c < l.length) {F : Int} (hF : 0 ≤ F) (hF2 : F ≤ 2000) :
    PCalls Try.prog 81 [.agg [.int .i64 t, .sl (ints l) l.length f], .int .i64 c, .int .i64 n, .int .i64 F] (.int .i64 (engrP F (n * (t * nthI l c)))) := by
  have hx : l[c]? = some l[c] := List.getElem?_eq_getElem hc
  have hd := ints_at hx
  rw [Nat.mul_one] at hd
  have hb := allB0 hh hx
  have hn' := nthI_at hx
  rw [hn']
  have hh' := headOk_iff.1 hh
  generalize l[c] = h at *
  have hlc : (c : Int) < l.length := by omega
  have m1 := mulB (a := n) (b := t) (A := 2000) (B := 400) (by omega) (by omega) (by omega) (by omega)
  have w1 : IntKind.i64.wrap (n * t) = n * t := wrap_in (by omega) (by omega)
  have m2 := mulB (a := n) (b := t * h) (A := 2000) (B := 80000) (by omega) (by omega) (by omega) (by omega)
  have w2 : IntKind.i64.wrap (n * t * h) = n * (t * h) := by rw [Int.mul_assoc]; exact wrap_in (by omega) (by omega)
  have hp := Int.mul_pos (show 0 < n by omega) (show 0 < t * h by omega)
  obtain ⟨A, hA⟩ : ∃ A, n * (t * h) = A := ⟨_, rfl⟩
  rw [hA] at w2 m2 hp ⊢
  have w3 : IntKind.i64.wrap (F * 129600000) = F * 129600000 := wrap_in (by omega) (by omega)
  have w4 : IntKind.i64.wrap (F * 129600000 + A) = F * 129600000 + A := wrap_in (by omega) (by omega)
  have w5 : IntKind.i64.wrap (F * 129600000 + A - 1) = F * 129600000 + A - 1 := wrap_in (by omega) (by omega)
  have hA0 : ¬ A = 0 := by omega
  have hq := Int.ediv_le_self A (show 0 ≤ F * 129600000 + A - 1 by omega)
  have hq0 := Int.ediv_nonneg (show 0 ≤ F * 129600000 + A - 1 by omega) (show 0 ≤ A by omega)
  have w6 : IntKind.i64.wrap ((F * 129600000 + A - 1).tdiv A) = engrP F A := by
    rw [Int.tdiv_eq_ediv_of_nonneg (by omega)]; exact wrap_in (by omega) (by omega)
  refine pcalls_by Try.mixes noSpec_ok (fn := Try.f81) Try.func81 rfl (by kernel_rfl) (by show 4 ≤ _; decide) ?_
  simp (decide := true) (maxSteps := 4000000) only [go_sem, Nat.reduceAdd, Nat.reduceSub, Nat.reduceMul, Nat.reduceDiv, Nat.reduceMod, Nat.reduceLT, Nat.reduceLeDiff, Nat.reduceEqDiff, Nat.reduceBEq, Nat.reduceBNe, Nat.reduceGT, Int.reduceAdd, Int.reduceSub, Int.reduceMul, Int.reduceNeg, Int.reduceLT, Int.reduceLE, Int.reduceEq, Int.reduceNe, Int.reduceBEq, Int.reduceBNe, Int.reduceToNat, Int.reduceGT, Int.reduceGE, ↓reduceIte, decide_true, decide_false, eq_self, Nat.mul_one, Nat.zero_mul, Nat.one_mul, Int.le_refl, Nat.le_refl, Int.cast_ofNat_Int, Try.f81, hlc, hd, w1, w2, w3, w4, w5, hA0, w6]
noncomputable def ixEngr : List TV → Option TV
  | [.agg [.int .i64 t, .sl cs m f], .int .i64 c, .int .i64 n, .int .i64 F] => match unI cs with
    | some l => if m = l.length ∧ headOk t l = true ∧ (1 ≤ n ∧ n ≤ 2000) ∧ (0 ≤ c ∧ c < l.length) ∧ 0 ≤ F ∧ F ≤ 2000 then some (.int .i64 (engrP F (n * (t * nthI l c)))) else none
    | none => none
  | _ => none
theorem ixEngr_ok : ∀ xs r, ixEngr xs = some r → PCalls Try.prog 81 xs r := by
  intro xs r h
  unfold ixEngr at h
  split at h
  · rename_i t cs m f c n F
    split at h
    · rename_i l hl
      split at h
      · rename_i hc; cases h
        obtain ⟨rfl, h0, h1, h2, h3⟩ := hc
        have e := unI_some hl
        rw [ic_ints] at e
        subst e
        have := iEngr_c f h0 h1.1 h1.2 (c := c.toNat) (by omega) h3.1 h3.2
        rwa [Int.toNat_of_nonneg h2.1] at this
      · cases h
    · cases h
  · cases h
attribute [go_sem] ixEngr
theorem iLess_c (a b c d : Int) : PCalls Try.prog 79 [.agg [.int .i64 a, .int .i64 b], .agg [.int .i64 c, .int .i64 d]] (.bool (decide (IntKind.i64.wrap (a * d) < IntKind.i64.wrap (c * b)))) := by
  refine pcalls_by Try.mixes noSpec_ok (fn := Try.f79) Try.func79 rfl (by kernel_rfl) (by show 2 ≤ _; decide) ?_
  simp (decide := true) (maxSteps := 4000000) only [go_sem, Nat.reduceAdd, Nat.reduceSub, Nat.reduceMul, Nat.reduceDiv, Nat.reduceMod, Nat.reduceLT, Nat.reduceLeDiff, Nat.reduceEqDiff, Nat.reduceBEq, Nat.reduceBNe, Nat.reduceGT, Int.reduceAdd, Int.reduceSub, Int.reduceMul, Int.reduceNeg, Int.reduceLT, Int.reduceLE, Int.reduceEq, Int.reduceNe, Int.reduceBEq, Int.reduceBNe, Int.reduceToNat, Int.reduceGT, Int.reduceGE, ↓reduceIte, decide_true, decide_false, eq_self, Nat.mul_one, Nat.zero_mul, Nat.one_mul, Int.le_refl, Nat.le_refl, Int.cast_ofNat_Int, Try.f79]
noncomputable def ixLess : List TV → Option TV
  | [.agg [.int .i64 a, .int .i64 b], .agg [.int .i64 c, .int .i64 d]] => some (.bool (decide (IntKind.i64.wrap (a * d) < IntKind.i64.wrap (c * b))))
  | _ => none
theorem ixLess_ok : ∀ xs r, ixLess xs = some r → PCalls Try.prog 79 xs r := by
  intro xs r h
  unfold ixLess at h
  split at h
  · cases h; exact iLess_c _ _ _ _
  · cases h
attribute [go_sem] ixLess
noncomputable def spZ2 : Pm.Spec := ((spU3.one 80 ixCutH).one 81 ixEngr).one 79 ixLess
@[go_sem] theorem spZ2_p (f : FuncId) (xs : List TV) : spZ2.p f xs = Pm.Spec.p (((spU3.one 80 ixCutH).one 81 ixEngr).one 79 ixLess) f xs := rfl
@[go_sem] theorem spZ2_h (f : FuncId) (ps : List PV) (hl : List PO) : spZ2.h f ps hl = Pm.Spec.h (((spU3.one 80 ixCutH).one 81 ixEngr).one 79 ixLess) f ps hl := rfl
@[go_sem] theorem spZ2_y (Y : Pm.YS) (f : FuncId) (ps : List PV) (hl : List PO) : spZ2.y Y f ps hl = Pm.Spec.y (((spU3.one 80 ixCutH).one 81 ixEngr).one 79 ixLess) Y f ps hl := rfl
@[go_sem] theorem spZ2_fz (f : FuncId) : spZ2.fz f = Pm.Spec.fz (((spU3.one 80 ixCutH).one 81 ixEngr).one 79 ixLess) f := rfl
@[go_sem] theorem spZ2_fr (f : FuncId) : spZ2.fr f = Pm.Spec.fr (((spU3.one 80 ixCutH).one 81 ixEngr).one 79 ixLess) f := rfl
@[go_sem] theorem spZ2_yf (f : FuncId) : spZ2.yf f = Pm.Spec.yf (((spU3.one 80 ixCutH).one 81 ixEngr).one 79 ixLess) f := rfl
@[go_sem] theorem spZ2_mu (t : TypeId) : spZ2.mu t = Pm.Spec.mu (((spU3.one 80 ixCutH).one 81 ixEngr).one 79 ixLess) t := rfl
@[go_sem] theorem spZ2_nf (t : TypeId) : spZ2.nf t = Pm.Spec.nf (((spU3.one 80 ixCutH).one 81 ixEngr).one 79 ixLess) t := rfl
theorem spZ2_ok : SpecOk Try.prog spZ2 := Spec.one_ok ixLess_ok (Spec.one_ok ixEngr_ok (Spec.one_ok ixCutH_ok spU3_ok))
end Go.Proofs.Ytadkjjnnnkfalaa.Ix

/- Part Ic. -/
namespace Go.Oc.Ix
end Go.Oc.Ix
namespace Go.Proofs.Ytadkjjnnnkfalaa.Ix
end Go.Proofs.Ytadkjjnnnkfalaa.Ix
namespace Go.Oc.Ix
open Go Go.Pm
set_option maxRecDepth 100000
def badW (x : Int) : Bool := !inB x 10 200
def idxBad (l : List Int) : Int := (fsTo (fun i => if badW (nthI l i) then some (i : Int) else none) l.length).getD (-1)
theorem stockOk1_iff {st : List Int} : stockOk1 st = true ↔ (2 ≤ st.length ∧ st.length ≤ 10) ∧ ∀ x ∈ st, 10 ≤ x ∧ x ≤ 200 := by
  simp only [stockOk1, Bool.and_eq_true, inB_iff, List.all_eq_true]
  constructor
  · rintro ⟨h, h2⟩; exact ⟨by omega, h2⟩
  · rintro ⟨h, h2⟩; exact ⟨by omega, h2⟩
/-- The best circle before the k-th one, its fault and its holes, as the program has them. -/
def bS (t : Int) (l : List Int) (n : Int) : Nat → Int × Int × Int
  | 0 => (0, 0, 0)
  | k + 1 => ((bestK t l n k).1, (bestK t l n k).2, nthI l (bestK t l n k).1)
theorem bS_first (t : Int) (l : List Int) (n : Int) {k : Nat} (h : k = 0) {x : Int} (hx : nthI l k = x) : bS t l n (k + 1) = ((k : Int), faultP (t * x) n, x) := by
  subst h
  have e : nthI l 0 = x := hx
  show ((0 : Int), faultP (t * nthI l 0) n, nthI l 0) = _
  rw [e]; rfl
theorem bS_next (t : Int) (l : List Int) (n : Int) {k : Nat} (h : ¬ k = 0) {x : Int} (hx : nthI l k = x) : bS t l n (k + 1) = if faultP (t * x) n * (bS t l n k).2.2 < (bS t l n k).2.1 * x then ((k : Int), faultP (t * x) n, x) else bS t l n k := by
  cases k with
  | zero => exact absurd rfl h
  | succ k =>
    have e : bestK t l n (k + 1) = if faultP (t * x) n * nthI l (bestK t l n k).1 < (bestK t l n k).2 * x then (((k + 1 : Nat) : Int), faultP (t * x) n) else bestK t l n k := by rw [bestK, hx]
    show ((bestK t l n (k + 1)).1, (bestK t l n (k + 1)).2, nthI l (bestK t l n (k + 1)).1) = if faultP (t * x) n * nthI l (bestK t l n k).1 < (bestK t l n k).2 * x then (((k + 1 : Nat) : Int), faultP (t * x) n, x) else ((bestK t l n k).1, (bestK t l n k).2, nthI l (bestK t l n k).1)
    rw [e]
    by_cases hc : faultP (t * x) n * nthI l (bestK t l n k).1 < (bestK t l n k).2 * x
    · rw [if_pos hc, if_pos hc]; simp only [hx]
    · rw [if_neg hc, if_neg hc]
theorem bS_bound (t : Int) {l : List Int} {n : Int} (hn : 1 ≤ n) (hn2 : n ≤ 2000) (hl : ∀ k : Nat, k < l.length → 0 ≤ nthI l k ∧ nthI l k ≤ 200) (k : Nat) (hk : k ≤ l.length) : (0 ≤ (bS t l n k).2.1 ∧ (bS t l n k).2.1 ≤ 2000) ∧ 0 ≤ (bS t l n k).2.2 ∧ (bS t l n k).2.2 ≤ 200 := by
  cases k with
  | zero => simp [bS]
  | succ k =>
    obtain ⟨b1, b2, b3⟩ := bestK_spec t l n k
    simp only [bS]
    obtain ⟨j, hj⟩ := Int.eq_ofNat_of_zero_le b1
    have h1 := hl j (by omega)
    rw [← hj] at h1
    have hf := faultTo_bound (all := t * nthI l (bestK t l n k).1) (n := n) (by omega) n.toNat
    rw [b3]
    unfold faultP
    omega
theorem idxBad_iff (l : List Int) : decide (idxBad l ≥ 0) = !(l.all fun n => inB n 10 200) := by
  unfold idxBad
  cases h : fsTo (fun i => if badW (nthI l i) then some (i : Int) else none) l.length with
  | some k =>
    obtain ⟨i, hi, _, hk⟩ := fsTo_some h
    split at hk
    · rename_i hb
      cases hk
      have e : (l.all fun n => inB n 10 200) = false := by
        rw [List.all_eq_false]
        have hx : l[i]? = some l[i] := List.getElem?_eq_getElem hi
        refine ⟨l[i], List.getElem_mem _, ?_⟩
        rw [nthI_at hx] at hb
        simpa [badW] using hb
      rw [e]; simp
    · cases hk
  | none =>
    have e : (l.all fun n => inB n 10 200) = true := by
      rw [List.all_eq_true]
      intro x hx
      obtain ⟨i, hi⟩ := List.mem_iff_getElem?.1 hx
      have := fsTo_none.1 h i (List.getElem?_eq_some_iff.1 hi).1
      rw [nthI_at hi] at this
      split at this
      · cases this
      · rename_i hb; simpa [badW] using hb
    rw [e]; rfl
end Go.Oc.Ix
namespace Go.Proofs.Ytadkjjnnnkfalaa.Ix
open Go.RowKit Go.Pm Go.Oc Go.Oc.Ix
set_option maxRecDepth 100000
set_option linter.unusedVariables false
set_option maxHeartbeats 4000000

theorem iCut_c (t : Int) {l : List Int} {s : TV} (hl : IsRow ic s l) (hll : l.length ≤ 17592186044415) (c n : Int) : PCalls Try.prog 41 [.agg [.int .i64 t, s], .int .i64 c, .int .i64 n] (.tup [rowG ic (cutE t l c n).1, .int .i64 (cutE t l c n).2.1, .int .i64 (cutE t l c n).2.2]) := by
  have rI := rowI_is hl
  unfold rowL at rI
  have hop : openE t l n 2000 = if headOk t l = false then 10 else if inB n 1 2000 = false then 11 else 0 := rfl
  have e0 : rowG ic [] = .nilSl := rfl
  refine pcalls_by Try.mixes spZ2_ok (fn := Try.f41) Try.func41 rfl (by kernel_rfl) (by show 3 ≤ _; decide) ?_
  unfold cutE
  cases h1 : headOk t l with
  | false =>
    rw [h1] at hop
    simp only [if_true] at hop
    simp (decide := true) (maxSteps := 4000000) only [go_sem, Nat.reduceAdd, Nat.reduceSub, Nat.reduceMul, Nat.reduceDiv, Nat.reduceMod, Nat.reduceLT, Nat.reduceLeDiff, Nat.reduceEqDiff, Nat.reduceBEq, Nat.reduceBNe, Nat.reduceGT, Int.reduceAdd, Int.reduceSub, Int.reduceMul, Int.reduceNeg, Int.reduceLT, Int.reduceLE, Int.reduceEq, Int.reduceNe, Int.reduceBEq, Int.reduceBNe, Int.reduceToNat, Int.reduceGT, Int.reduceGE, ↓reduceIte, decide_true, decide_false, eq_self, Nat.mul_one, Nat.zero_mul, Nat.one_mul, Int.le_refl, Nat.le_refl, Int.cast_ofNat_Int, Try.f41, rI, hll, hop, e0]
  | true =>
    rw [h1] at hop
    simp only [Bool.true_eq_false, if_false] at hop
    cases h2 : inB n 1 2000 with
    | false =>
      rw [h2] at hop
      simp only [if_true] at hop
      simp (decide := true) (maxSteps := 4000000) only [go_sem, Nat.reduceAdd, Nat.reduceSub, Nat.reduceMul, Nat.reduceDiv, Nat.reduceMod, Nat.reduceLT, Nat.reduceLeDiff, Nat.reduceEqDiff, Nat.reduceBEq, Nat.reduceBNe, Nat.reduceGT, Int.reduceAdd, Int.reduceSub, Int.reduceMul, Int.reduceNeg, Int.reduceLT, Int.reduceLE, Int.reduceEq, Int.reduceNe, Int.reduceBEq, Int.reduceBNe, Int.reduceToNat, Int.reduceGT, Int.reduceGE, ↓reduceIte, decide_true, decide_false, eq_self, Nat.mul_one, Nat.zero_mul, Nat.one_mul, Int.le_refl, Nat.le_refl, Int.cast_ofNat_Int, Try.f41, rI, hll, hop, e0]
    | true =>
      rw [h2] at hop
      simp only [Bool.true_eq_false, if_false] at hop
      have hh := headOk_iff.1 h1
      have hn := inB_iff.1 h2
      obtain ⟨f, rfl⟩ := hl.ne (by omega)
      rw [ic_ints] at rI ⊢
      simp only [unI_eq, if_true] at rI
      have wl : IntKind.i64.wrap ((l.length : Int) - 1) = (l.length : Int) - 1 := wrap_in (by omega) (by omega)
      cases h3 : inB c 0 ((l.length : Int) - 1) with
      | false => simp (decide := true) (maxSteps := 4000000) only [go_sem, Nat.reduceAdd, Nat.reduceSub, Nat.reduceMul, Nat.reduceDiv, Nat.reduceMod, Nat.reduceLT, Nat.reduceLeDiff, Nat.reduceEqDiff, Nat.reduceBEq, Nat.reduceBNe, Nat.reduceGT, Int.reduceAdd, Int.reduceSub, Int.reduceMul, Int.reduceNeg, Int.reduceLT, Int.reduceLE, Int.reduceEq, Int.reduceNe, Int.reduceBEq, Int.reduceBNe, Int.reduceToNat, Int.reduceGT, Int.reduceGE, ↓reduceIte, decide_true, decide_false, eq_self, Nat.mul_one, Nat.zero_mul, Nat.one_mul, Int.le_refl, Nat.le_refl, Int.cast_ofNat_Int, Try.f41, rI, hll, hop, wl, h3, e0]
      | true =>
        have hc := inB_iff.1 h3
        have hc2 : 0 ≤ c ∧ c < (l.length : Int) := by omega
        have hf := faultTo_bound (all := t * nthI l c) (n := n) (by omega) n.toNat
        have hf2 : 0 ≤ faultP (t * nthI l c) n ∧ faultP (t * nthI l c) n ≤ 2000 := by unfold faultP; omega
        have er : rowG ic ((List.range n.toNat).map fun k : Nat => placeP (t * nthI l c) n k) = .sl (ints (placesTo (t * nthI l c) n n.toNat)) n.toNat false := by
          unfold rowG
          rw [ic_ints, if_neg (by simp; omega)]
          simp [placesTo]
        simp (decide := true) (maxSteps := 4000000) only [go_sem, Nat.reduceAdd, Nat.reduceSub, Nat.reduceMul, Nat.reduceDiv, Nat.reduceMod, Nat.reduceLT, Nat.reduceLeDiff, Nat.reduceEqDiff, Nat.reduceBEq, Nat.reduceBNe, Nat.reduceGT, Int.reduceAdd, Int.reduceSub, Int.reduceMul, Int.reduceNeg, Int.reduceLT, Int.reduceLE, Int.reduceEq, Int.reduceNe, Int.reduceBEq, Int.reduceBNe, Int.reduceToNat, Int.reduceGT, Int.reduceGE, ↓reduceIte, decide_true, decide_false, eq_self, Nat.mul_one, Nat.zero_mul, Nat.one_mul, Int.le_refl, Nat.le_refl, Int.cast_ofNat_Int, Try.f41, rI, hll, hop, wl, h3, unI_eq, h1, hn, hc2, hf2, er]
theorem iBestE_c (t : Int) {l : List Int} {s : TV} (hl : IsRow ic s l) (hll : l.length ≤ 17592186044415) (n : Int) : PCalls Try.prog 40 [.agg [.int .i64 t, s], .int .i64 n] (.tup [.int .i64 (bestE t l n).1, .int .i64 (bestE t l n).2.1, .int .i64 (bestE t l n).2.2]) := by
  have rI := rowI_is hl
  unfold rowL at rI
  have hop : openE t l n 2000 = if headOk t l = false then 10 else if inB n 1 2000 = false then 11 else 0 := rfl
  refine pcalls_by Try.mixes spZ2_ok (fn := Try.f40) Try.func40 rfl (by kernel_rfl) (by show 2 ≤ _; decide) ?_
  unfold bestE
  cases h1 : headOk t l with
  | false =>
    rw [h1] at hop
    simp only [if_true] at hop
    simp (decide := true) (maxSteps := 4000000) only [go_sem, Nat.reduceAdd, Nat.reduceSub, Nat.reduceMul, Nat.reduceDiv, Nat.reduceMod, Nat.reduceLT, Nat.reduceLeDiff, Nat.reduceEqDiff, Nat.reduceBEq, Nat.reduceBNe, Nat.reduceGT, Int.reduceAdd, Int.reduceSub, Int.reduceMul, Int.reduceNeg, Int.reduceLT, Int.reduceLE, Int.reduceEq, Int.reduceNe, Int.reduceBEq, Int.reduceBNe, Int.reduceToNat, Int.reduceGT, Int.reduceGE, ↓reduceIte, decide_true, decide_false, eq_self, Nat.mul_one, Nat.zero_mul, Nat.one_mul, Int.le_refl, Nat.le_refl, Int.cast_ofNat_Int, Try.f40, rI, hll, hop]
  | true =>
    rw [h1] at hop
    simp only [Bool.true_eq_false, if_false] at hop
    cases h2 : inB n 1 2000 with
    | false =>
      rw [h2] at hop
      simp only [if_true] at hop
      simp (decide := true) (maxSteps := 4000000) only [go_sem, Nat.reduceAdd, Nat.reduceSub, Nat.reduceMul, Nat.reduceDiv, Nat.reduceMod, Nat.reduceLT, Nat.reduceLeDiff, Nat.reduceEqDiff, Nat.reduceBEq, Nat.reduceBNe, Nat.reduceGT, Int.reduceAdd, Int.reduceSub, Int.reduceMul, Int.reduceNeg, Int.reduceLT, Int.reduceLE, Int.reduceEq, Int.reduceNe, Int.reduceBEq, Int.reduceBNe, Int.reduceToNat, Int.reduceGT, Int.reduceGE, ↓reduceIte, decide_true, decide_false, eq_self, Nat.mul_one, Nat.zero_mul, Nat.one_mul, Int.le_refl, Nat.le_refl, Int.cast_ofNat_Int, Try.f40, rI, hll, hop]
    | true =>
      rw [h2] at hop
      simp only [Bool.true_eq_false, if_false] at hop
      have hh := headOk_iff.1 h1
      have hn := inB_iff.1 h2
      obtain ⟨f, rfl⟩ := hl.ne (by omega)
      rw [ic_ints] at rI ⊢
      simp only [unI_eq, if_true] at rI
      simp (decide := true) (maxSteps := 4000000) only [go_sem, Nat.reduceAdd, Nat.reduceSub, Nat.reduceMul, Nat.reduceDiv, Nat.reduceMod, Nat.reduceLT, Nat.reduceLeDiff, Nat.reduceEqDiff, Nat.reduceBEq, Nat.reduceBNe, Nat.reduceGT, Int.reduceAdd, Int.reduceSub, Int.reduceMul, Int.reduceNeg, Int.reduceLT, Int.reduceLE, Int.reduceEq, Int.reduceNe, Int.reduceBEq, Int.reduceBNe, Int.reduceToNat, Int.reduceGT, Int.reduceGE, ↓reduceIte, decide_true, decide_false, eq_self, Nat.mul_one, Nat.zero_mul, Nat.one_mul, Int.le_refl, Nat.le_refl, Int.cast_ofNat_Int, Try.f40, rI, hll, hop]
      have hnl : ∀ k : Nat, k < l.length → 0 ≤ nthI l k ∧ nthI l k ≤ 200 := fun k hk => by
        have e : l[k]? = some l[k] := List.getElem?_eq_getElem hk
        rw [nthI_at e]; have := head_at h1 e; omega
      refine pwpC_loopU (A := { k : Nat // k ≤ l.length }) [1, 5, 6, 7, 8, 9, 26, 27] (fun k => [(28, .t (.int .i64 k.1)), (4, .t (.int .i64 (bS t l n k.1).1))]) (fun k => [(2, .box [.t (.int .i64 (bS t l n k.1).2.1), .t (.int .i64 (bS t l n k.1).2.2)])]) (fun k => l.length - k.1) ⟨0, by omega⟩ (by decide) (fun _ => by rfl) ?_ fun Q1 hQ1 ⟨k, hk⟩ I1 hI1 => ?_
      · simp (decide := true) (maxSteps := 4000000) only [go_sem, Nat.reduceAdd, Nat.reduceSub, Nat.reduceMul, Nat.reduceDiv, Nat.reduceMod, Nat.reduceLT, Nat.reduceLeDiff, Nat.reduceEqDiff, Nat.reduceBEq, Nat.reduceBNe, Nat.reduceGT, Int.reduceAdd, Int.reduceSub, Int.reduceMul, Int.reduceNeg, Int.reduceLT, Int.reduceLE, Int.reduceEq, Int.reduceNe, Int.reduceBEq, Int.reduceBNe, Int.reduceToNat, Int.reduceGT, Int.reduceGE, ↓reduceIte, decide_true, decide_false, eq_self, Nat.mul_one, Nat.zero_mul, Nat.one_mul, Int.le_refl, Nat.le_refl, Int.cast_ofNat_Int, bS]
        first | done | exact ⟨rfl, rfl⟩ | rfl
      · by_cases hlt : (k : Int) < l.length
        · obtain ⟨h, hx⟩ := get_lt hlt
          have hd := ints_at hx
          rw [Nat.mul_one] at hd
          have hnk := nthI_at hx
          have hbk := head_at h1 hx
          have hc1 : IntKind.i64.wrap (k + 1) = ((k + 1 : Nat) : Int) := by rw [wrap_in (by omega) (by omega)]; omega
          have c1 : (0 : Int) ≤ (k : Int) ∧ (k : Int) < (l.length : Int) := by omega
          have hf := faultTo_bound (all := t * h) (n := n) (by omega) n.toNat
          have hf2 : 0 ≤ faultP (t * h) n ∧ faultP (t * h) n ≤ 2000 := by unfold faultP; omega
          have hbd := bS_bound t hn.1 hn.2 hnl k hk
          by_cases hk0 : k = 0
          · have e1 : ((k : Int) == 0) = true := beq_int_t (by omega)
            have hS := bS_first t l n hk0 hnk
            simp (decide := true) (maxSteps := 4000000) only [go_sem, Nat.reduceAdd, Nat.reduceSub, Nat.reduceMul, Nat.reduceDiv, Nat.reduceMod, Nat.reduceLT, Nat.reduceLeDiff, Nat.reduceEqDiff, Nat.reduceBEq, Nat.reduceBNe, Nat.reduceGT, Int.reduceAdd, Int.reduceSub, Int.reduceMul, Int.reduceNeg, Int.reduceLT, Int.reduceLE, Int.reduceEq, Int.reduceNe, Int.reduceBEq, Int.reduceBNe, Int.reduceToNat, Int.reduceGT, Int.reduceGE, ↓reduceIte, decide_true, decide_false, eq_self, Nat.mul_one, Nat.zero_mul, Nat.one_mul, Int.le_refl, Nat.le_refl, Int.cast_ofNat_Int, hlt, hd, unI_eq, h1, hn, c1, hnk, e1]
            refine hI1 _ ⟨k + 1, by omega⟩ (by simp only; omega) ?_
            simp (decide := true) (maxSteps := 4000000) only [go_sem, Nat.reduceAdd, Nat.reduceSub, Nat.reduceMul, Nat.reduceDiv, Nat.reduceMod, Nat.reduceLT, Nat.reduceLeDiff, Nat.reduceEqDiff, Nat.reduceBEq, Nat.reduceBNe, Nat.reduceGT, Int.reduceAdd, Int.reduceSub, Int.reduceMul, Int.reduceNeg, Int.reduceLT, Int.reduceLE, Int.reduceEq, Int.reduceNe, Int.reduceBEq, Int.reduceBNe, Int.reduceToNat, Int.reduceGT, Int.reduceGE, ↓reduceIte, decide_true, decide_false, eq_self, Nat.mul_one, Nat.zero_mul, Nat.one_mul, Int.le_refl, Nat.le_refl, Int.cast_ofNat_Int, hc1, hS]
          · have e1 : ((k : Int) == 0) = false := beq_int_f (by omega)
            have hS := bS_next t l n hk0 hnk
            obtain ⟨⟨X, Y, Z⟩, hX⟩ : ∃ X, bS t l n k = X := ⟨_, rfl⟩
            rw [hX] at hS hbd
            simp only at hS hbd
            obtain ⟨F, hF⟩ : ∃ F, faultP (t * h) n = F := ⟨_, rfl⟩
            rw [hF] at hf2 hS
            have m1 := mulB (a := F) (b := Z) (A := 2000) (B := 200) (by omega) (by omega) (by omega) (by omega)
            have m2 := mulB (a := Y) (b := h) (A := 2000) (B := 200) (by omega) (by omega) (by omega) (by omega)
            have w1 : IntKind.i64.wrap (F * Z) = F * Z := wrap_in (by omega) (by omega)
            have w2 : IntKind.i64.wrap (Y * h) = Y * h := wrap_in (by omega) (by omega)
            by_cases hc : F * Z < Y * h
            · rw [if_pos hc] at hS
              simp (decide := true) (maxSteps := 4000000) only [go_sem, Nat.reduceAdd, Nat.reduceSub, Nat.reduceMul, Nat.reduceDiv, Nat.reduceMod, Nat.reduceLT, Nat.reduceLeDiff, Nat.reduceEqDiff, Nat.reduceBEq, Nat.reduceBNe, Nat.reduceGT, Int.reduceAdd, Int.reduceSub, Int.reduceMul, Int.reduceNeg, Int.reduceLT, Int.reduceLE, Int.reduceEq, Int.reduceNe, Int.reduceBEq, Int.reduceBNe, Int.reduceToNat, Int.reduceGT, Int.reduceGE, ↓reduceIte, decide_true, decide_false, eq_self, Nat.mul_one, Nat.zero_mul, Nat.one_mul, Int.le_refl, Nat.le_refl, Int.cast_ofNat_Int, hlt, hd, unI_eq, h1, hn, c1, hnk, e1, hX, hF, w1, w2, hc]
              refine hI1 _ ⟨k + 1, by omega⟩ (by simp only; omega) ?_
              simp (decide := true) (maxSteps := 4000000) only [go_sem, Nat.reduceAdd, Nat.reduceSub, Nat.reduceMul, Nat.reduceDiv, Nat.reduceMod, Nat.reduceLT, Nat.reduceLeDiff, Nat.reduceEqDiff, Nat.reduceBEq, Nat.reduceBNe, Nat.reduceGT, Int.reduceAdd, Int.reduceSub, Int.reduceMul, Int.reduceNeg, Int.reduceLT, Int.reduceLE, Int.reduceEq, Int.reduceNe, Int.reduceBEq, Int.reduceBNe, Int.reduceToNat, Int.reduceGT, Int.reduceGE, ↓reduceIte, decide_true, decide_false, eq_self, Nat.mul_one, Nat.zero_mul, Nat.one_mul, Int.le_refl, Nat.le_refl, Int.cast_ofNat_Int, hc1, hS]
            · rw [if_neg hc] at hS
              simp (decide := true) (maxSteps := 4000000) only [go_sem, Nat.reduceAdd, Nat.reduceSub, Nat.reduceMul, Nat.reduceDiv, Nat.reduceMod, Nat.reduceLT, Nat.reduceLeDiff, Nat.reduceEqDiff, Nat.reduceBEq, Nat.reduceBNe, Nat.reduceGT, Int.reduceAdd, Int.reduceSub, Int.reduceMul, Int.reduceNeg, Int.reduceLT, Int.reduceLE, Int.reduceEq, Int.reduceNe, Int.reduceBEq, Int.reduceBNe, Int.reduceToNat, Int.reduceGT, Int.reduceGE, ↓reduceIte, decide_true, decide_false, eq_self, Nat.mul_one, Nat.zero_mul, Nat.one_mul, Int.le_refl, Nat.le_refl, Int.cast_ofNat_Int, hlt, hd, unI_eq, h1, hn, c1, hnk, e1, hX, hF, w1, w2, hc]
              refine hI1 _ ⟨k + 1, by omega⟩ (by simp only; omega) ?_
              simp (decide := true) (maxSteps := 4000000) only [go_sem, Nat.reduceAdd, Nat.reduceSub, Nat.reduceMul, Nat.reduceDiv, Nat.reduceMod, Nat.reduceLT, Nat.reduceLeDiff, Nat.reduceEqDiff, Nat.reduceBEq, Nat.reduceBNe, Nat.reduceGT, Int.reduceAdd, Int.reduceSub, Int.reduceMul, Int.reduceNeg, Int.reduceLT, Int.reduceLE, Int.reduceEq, Int.reduceNe, Int.reduceBEq, Int.reduceBNe, Int.reduceToNat, Int.reduceGT, Int.reduceGE, ↓reduceIte, decide_true, decide_false, eq_self, Nat.mul_one, Nat.zero_mul, Nat.one_mul, Int.le_refl, Nat.le_refl, Int.cast_ofNat_Int, hc1, hS]
        · have hke : k = l.length := by omega
          subst hke
          obtain ⟨j, hj⟩ : ∃ j, l.length = j + 1 := ⟨l.length - 1, by omega⟩
          obtain ⟨b1, b2, b3⟩ := bestK_spec t l n (l.length - 1)
          have hbd := bS_bound t hn.1 hn.2 hnl l.length hk
          have hS : bS t l n l.length = ((bestK t l n (l.length - 1)).1, (bestK t l n (l.length - 1)).2, nthI l (bestK t l n (l.length - 1)).1) := by
            rw [hj]; rfl
          rw [hS] at hbd
          simp only at hbd
          have c1 : 0 ≤ (bestK t l n (l.length - 1)).1 ∧ (bestK t l n (l.length - 1)).1 < (l.length : Int) := by omega
          simp (decide := true) (maxSteps := 4000000) only [go_sem, Nat.reduceAdd, Nat.reduceSub, Nat.reduceMul, Nat.reduceDiv, Nat.reduceMod, Nat.reduceLT, Nat.reduceLeDiff, Nat.reduceEqDiff, Nat.reduceBEq, Nat.reduceBNe, Nat.reduceGT, Int.reduceAdd, Int.reduceSub, Int.reduceMul, Int.reduceNeg, Int.reduceLT, Int.reduceLE, Int.reduceEq, Int.reduceNe, Int.reduceBEq, Int.reduceBNe, Int.reduceToNat, Int.reduceGT, Int.reduceGE, ↓reduceIte, decide_true, decide_false, eq_self, Nat.mul_one, Nat.zero_mul, Nat.one_mul, Int.le_refl, Nat.le_refl, Int.cast_ofNat_Int, hlt]
          refine hQ1 _ _ ?_
          simp (decide := true) (maxSteps := 4000000) only [go_sem, Nat.reduceAdd, Nat.reduceSub, Nat.reduceMul, Nat.reduceDiv, Nat.reduceMod, Nat.reduceLT, Nat.reduceLeDiff, Nat.reduceEqDiff, Nat.reduceBEq, Nat.reduceBNe, Nat.reduceGT, Int.reduceAdd, Int.reduceSub, Int.reduceMul, Int.reduceNeg, Int.reduceLT, Int.reduceLE, Int.reduceEq, Int.reduceNe, Int.reduceBEq, Int.reduceBNe, Int.reduceToNat, Int.reduceGT, Int.reduceGE, ↓reduceIte, decide_true, decide_false, eq_self, Nat.mul_one, Nat.zero_mul, Nat.one_mul, Int.le_refl, Nat.le_refl, Int.cast_ofNat_Int, hS, unI_eq, h1, hn, c1, hbd]
end Go.Proofs.Ytadkjjnnnkfalaa.Ix

/- Part ITop. -/
namespace Go.Oc.Ix
end Go.Oc.Ix
namespace Go.Proofs.Ytadkjjnnnkfalaa.Ix
end Go.Proofs.Ytadkjjnnnkfalaa.Ix
namespace Go.Proofs.Ytadkjjnnnkfalaa.Ix
open Go.RowKit Go.Pm Go.Oc Go.Oc.Ix
set_option maxRecDepth 100000
set_option linter.unusedVariables false

noncomputable def xCut : List TV → Option TV
  | [.agg [.int .i64 t, s], .int .i64 c, .int .i64 n] => match rowL unI s with
    | some l => if l.length ≤ 17592186044415 then some (.tup [rowG ic (cutE t l c n).1, .int .i64 (cutE t l c n).2.1, .int .i64 (cutE t l c n).2.2]) else none
    | none => none
  | _ => none
theorem xCut_ok : ∀ xs r, xCut xs = some r → PCalls Try.prog 41 xs r := by
  intro xs r h
  unfold xCut at h
  split at h
  · split at h
    · rename_i l hl
      have hl := rowL_some (un := unI) (by first | rfl | exact unI_nil) (@unI_some) hl
      split at h
      · rename_i hc; cases h; exact iCut_c _ hl hc _ _
      · cases h
    · cases h
  · cases h
attribute [go_sem] xCut
noncomputable def xBest : List TV → Option TV
  | [.agg [.int .i64 t, s], .int .i64 n] => match rowL unI s with
    | some l => if l.length ≤ 17592186044415 then some (.tup [.int .i64 (bestE t l n).1, .int .i64 (bestE t l n).2.1, .int .i64 (bestE t l n).2.2]) else none
    | none => none
  | _ => none
theorem xBest_ok : ∀ xs r, xBest xs = some r → PCalls Try.prog 40 xs r := by
  intro xs r h
  unfold xBest at h
  split at h
  · split at h
    · rename_i l hl
      have hl := rowL_some (un := unI) (by first | rfl | exact unI_nil) (@unI_some) hl
      split at h
      · rename_i hc; cases h; exact iBestE_c _ hl hc _
      · cases h
    · cases h
  · cases h
attribute [go_sem] xBest
end Go.Proofs.Ytadkjjnnnkfalaa.Ix

/- Part Lp. -/
namespace Go.Oc.Lv
end Go.Oc.Lv
namespace Go.Proofs.Ytadkjjnnnkfalaa.Lv
end Go.Proofs.Ytadkjjnnnkfalaa.Lv
namespace Go.Oc.Lv
open Go Go.Pm

structure Vial where
  marks : Int
  l0 : Int
  l1 : Int
  v0 : Int
  v1 : Int
  z0 : Int
  z1 : Int
  wr : Int
  deriving DecidableEq
def Vial.cs (v : Vial) : List TV := [.int .i64 v.marks, .int .i64 v.l0, .int .i64 v.l1, .int .i64 v.v0, .int .i64 v.v1, .int .i64 v.z0, .int .i64 v.z1, .int .i64 v.wr]
def Vial.t (v : Vial) : TV := .agg v.cs
def Vial.ok (v : Vial) : Bool := inB v.marks 10 200 && spannedB ⟨v.l0, v.l1⟩ 1 v.marks && spannedB ⟨v.v0, v.v1⟩ 1 500 && spannedB ⟨v.z0, v.z1⟩ 0 (2 * v.marks) && inB v.wr 0 8
theorem Vial.ok_iff {v : Vial} : v.ok = true ↔ (10 ≤ v.marks ∧ v.marks ≤ 200) ∧ (1 ≤ v.l0 ∧ v.l0 ≤ v.l1 ∧ v.l1 ≤ v.marks) ∧ (1 ≤ v.v0 ∧ v.v0 ≤ v.v1 ∧ v.v1 ≤ 500) ∧ (0 ≤ v.z0 ∧ v.z0 ≤ v.z1 ∧ v.z1 ≤ 2 * v.marks) ∧ 0 ≤ v.wr ∧ v.wr ≤ 8 := by
  simp only [Vial.ok, inB, spannedB, Bool.and_eq_true, decide_eq_true_eq]
  constructor
  · rintro ⟨⟨⟨⟨a, b, c⟩, d, e⟩, f, g⟩, h⟩; simp_all
  · rintro ⟨a, b, c, d, e⟩; simp_all

structure Rd where
  left : Int
  right : Int
  turned : Bool
  deriving DecidableEq
def Rd.cs (r : Rd) : List TV := [.int .i64 r.left, .int .i64 r.right, .bool r.turned]
def unRds : List TV → Option (List Rd)
  | [] => some []
  | .int .i64 a :: .int .i64 b :: .bool c :: r => (unRds r).map (⟨a, b, c⟩ :: ·)
  | _ => none
theorem unRds_eq : ∀ l : List Rd, unRds (l.flatMap Rd.cs) = some l
  | [] => rfl
  | x :: l => by simp [Rd.cs, unRds, unRds_eq l]
theorem unRds_some : ∀ {cs : List TV} {l : List Rd}, unRds cs = some l → cs = l.flatMap Rd.cs := by
  intro cs
  induction cs using unRds.induct with
  | case1 => intro l h; simp [unRds] at h; subst h; rfl
  | case2 a b c r ih =>
    intro l h
    simp only [unRds, Option.map_eq_some_iff] at h
    obtain ⟨l', h1, rfl⟩ := h
    rw [ih h1]; rfl
  | case3 r h1 h2 =>
    intro l h
    unfold unRds at h
    split at h
    · exact absurd rfl h1
    · exact absurd rfl (h2 _ _ _ _)
    · cases h
attribute [go_sem] unRds_eq

structure Mk where
  at' : Int
  tu : Bool
  deriving DecidableEq
def Mk.cs (m : Mk) : List TV := [.int .i64 m.at', .bool m.tu]
def unMks : List TV → Option (List Mk)
  | [] => some []
  | .int .i64 a :: .bool c :: r => (unMks r).map (⟨a, c⟩ :: ·)
  | _ => none
theorem unMks_eq : ∀ l : List Mk, unMks (l.flatMap Mk.cs) = some l
  | [] => rfl
  | x :: l => by simp [Mk.cs, unMks, unMks_eq l]
theorem unMks_some : ∀ {cs : List TV} {l : List Mk}, unMks cs = some l → cs = l.flatMap Mk.cs := by
  intro cs
  induction cs using unMks.induct with
  | case1 => intro l h; simp [unMks] at h; subst h; rfl
  | case2 a c r ih =>
    intro l h
    simp only [unMks, Option.map_eq_some_iff] at h
    obtain ⟨l', h1, rfl⟩ := h
    rw [ih h1]; rfl
  | case3 r h1 h2 =>
    intro l h
    unfold unMks at h
    split at h
    · exact absurd rfl h1
    · exact absurd rfl (h2 _ _ _)
    · cases h
attribute [go_sem] unMks_eq

/-- Is a reading one of a valid vial? -/
def rdOk (v : Vial) (x : Rd) : Bool := inB x.left 0 v.marks && inB x.right (x.left + 1) v.marks && inB (x.right - x.left) (v.l0 - v.wr) (v.l1 + v.wr)
def rdsOk (v : Vial) (l : List Rd) : Bool := inB l.length 1 8 && l.all (rdOk v)
def mid (r : Rd) : Mk := ⟨r.left + r.right, r.turned⟩
/-- The error of a vial and readings. -/
def asked (v : Vial) (l : List Rd) : Int := if v.ok = false then 30 else if rdsOk v l = false then 31 else 0
def mksOk (l : List Mk) : Bool := l.all fun m => inB m.at' 0 400
theorem mksOk_mid {v : Vial} {l : List Rd} (hv : v.ok = true) (h : rdsOk v l = true) : mksOk (l.map mid) = true := by
  simp only [rdsOk, mksOk, Bool.and_eq_true, List.all_eq_true, List.mem_map, forall_exists_index, and_imp, forall_apply_eq_imp_iff₂] at h ⊢
  intro r hr
  have := h.2 r hr
  have hm := (Vial.ok_iff.1 hv).1
  simp only [rdOk, inB, Bool.and_eq_true, decide_eq_true_eq] at this
  show inB (r.left + r.right) 0 400 = true
  rw [inB_iff]; omega

/-- How many half marks a middle is out, with a zero. -/
def outM (m : Mk) (z : Int) : Int := if m.tu then z - m.at' else m.at' - z
def inS (w z : Int) (s : Span) (m : Mk) : Span := ⟨max s.lo (outM m z - w), min s.hi (outM m z + w)⟩
/-- Between how many half marks the tilt is, by middles, with a zero. -/
def withinS (w : Int) (l : List Mk) (z : Int) : Span := l.foldl (inS w z) ⟨-10000, 10000⟩
theorem withinS_bound {w z : Int} (hw : 0 ≤ w ∧ w ≤ 8) (hz : 0 ≤ z ∧ z ≤ 400) : ∀ {l : List Mk} {s : Span}, mksOk l = true → (-10000 ≤ s.lo ∧ s.lo ≤ 10000 ∧ -10000 ≤ s.hi ∧ s.hi ≤ 10000) →
    -10000 ≤ (l.foldl (inS w z) s).lo ∧ (l.foldl (inS w z) s).lo ≤ 10000 ∧ -10000 ≤ (l.foldl (inS w z) s).hi ∧ (l.foldl (inS w z) s).hi ≤ 10000
  | [], _, _, h => h
  | m :: l, s, h, hs => by
    simp only [mksOk, List.all_cons, Bool.and_eq_true, inB, decide_eq_true_eq] at h
    refine withinS_bound hw hz (l := l) h.2 ?_
    simp only [inS, outM]
    split <;> omega

/-- Ends of products. -/
def leastP (v : Vial) (lo : Int) : Int := min (lo * v.v0) (lo * v.v1)
def mostP (v : Vial) (hi : Int) : Int := max (hi * v.v0) (hi * v.v1)
/-- The zeros of a list that can be, each with what the tilt is then, in half marks. -/
def zerosOf (v : Vial) (l : List Mk) (zs : List Int) : List (Int × Span) := zs.filterMap fun z => let s := withinS v.wr l z; if s.lo ≤ s.hi then some (z, s) else none
def range (a : Int) (n : Nat) : List Int := (List.range n).map fun (k : Nat) => a + (k : Int)
def allZ (v : Vial) : List Int := range v.z0 (v.z1 - v.z0 + 1).toNat
/-- The tilt, the zero, and whether there is one. -/
structure TZ where
  tilt : Span
  zero : Span
  is : Bool
  deriving DecidableEq
def TZ.t (x : TZ) : TV := .tup [x.tilt.t, x.zero.t, .bool x.is]
def tiltStep (v : Vial) (x : TZ) (y : Int × Span) : TZ :=
  if x.is then ⟨⟨min x.tilt.lo (leastP v y.2.lo), max x.tilt.hi (mostP v y.2.hi)⟩, ⟨x.zero.lo, y.1⟩, true⟩
  else ⟨⟨leastP v y.2.lo, mostP v y.2.hi⟩, ⟨y.1, y.1⟩, true⟩
def tiltsOf (v : Vial) (xs : List (Int × Span)) : TZ := xs.foldl (tiltStep v) ⟨⟨0, 0⟩, ⟨0, 0⟩, false⟩
def tilts (v : Vial) (l : List Mk) : TZ := tiltsOf v (zerosOf v l (allZ v))

theorem range_succ (a : Int) (n : Nat) : range a (n + 1) = range a n ++ [a + n] := by simp [range, List.range_succ]
def foundZ (v : Vial) (l : List Mk) (z : Int) : List (Int × Span) := if (withinS v.wr l z).lo ≤ (withinS v.wr l z).hi then [(z, withinS v.wr l z)] else []
theorem zerosOf_snoc (v : Vial) (l : List Mk) (zs : List Int) (z : Int) : zerosOf v l (zs ++ [z]) = zerosOf v l zs ++ foundZ v l z := by
  unfold zerosOf foundZ
  rw [List.filterMap_append]
  congr 1
  simp only [List.filterMap_cons, List.filterMap_nil]
  split <;> rename_i h <;> split at h <;> simp_all
/-- The tilt after so many zeros. -/
def tiltsTo (v : Vial) (l : List Mk) (k : Nat) : TZ := tiltsOf v (zerosOf v l (range v.z0 k))
theorem tiltsTo_zero (v : Vial) (l : List Mk) : tiltsTo v l 0 = ⟨⟨0, 0⟩, ⟨0, 0⟩, false⟩ := rfl
theorem tiltsTo_out {v : Vial} {l : List Mk} {k : Nat} (h : ¬ (withinS v.wr l (v.z0 + k)).lo ≤ (withinS v.wr l (v.z0 + k)).hi) : tiltsTo v l (k + 1) = tiltsTo v l k := by
  unfold tiltsTo
  rw [range_succ, zerosOf_snoc, foundZ, if_neg h, List.append_nil]
theorem tiltsTo_in {v : Vial} {l : List Mk} {k : Nat} (h : (withinS v.wr l (v.z0 + k)).lo ≤ (withinS v.wr l (v.z0 + k)).hi) : tiltsTo v l (k + 1) = tiltStep v (tiltsTo v l k) (v.z0 + k, withinS v.wr l (v.z0 + k)) := by
  unfold tiltsTo
  rw [range_succ, zerosOf_snoc, foundZ, if_pos h]
  unfold tiltsOf
  rw [List.foldl_append]; rfl
theorem tiltsTo_low {v : Vial} {l : List Mk} : ∀ {k : Nat}, (tiltsTo v l k).is = true → (tiltsTo v l k).zero.lo ≤ v.z0 + k ∧ (tiltsTo v l k).zero.hi ≤ v.z0 + k ∧ v.z0 ≤ (tiltsTo v l k).zero.lo ∧ (tiltsTo v l k).zero.lo ≤ (tiltsTo v l k).zero.hi
  | 0, h => by rw [tiltsTo_zero] at h; cases h
  | k + 1, h => by
    by_cases hin : (withinS v.wr l (v.z0 + k)).lo ≤ (withinS v.wr l (v.z0 + k)).hi
    · rw [tiltsTo_in hin]
      unfold tiltStep
      split
      · rename_i hi; have := tiltsTo_low hi; simp only; omega
      · simp only; omega
    · rw [tiltsTo_out hin] at h ⊢
      have := tiltsTo_low h; omega
theorem mulB {a b : Int} (ha : -10000 ≤ a ∧ a ≤ 10000) (hb : 0 ≤ b ∧ b ≤ 500) : -5000000 ≤ a * b ∧ a * b ≤ 5000000 := by
  have h1 := Int.mul_le_mul_of_nonneg_right ha.1 hb.1
  have h2 := Int.mul_le_mul_of_nonneg_right ha.2 hb.1
  omega
theorem least_most {v : Vial} (hv : v.ok = true) {lo hi : Int} (h : lo ≤ hi) : leastP v lo ≤ mostP v hi := by
  have hv' := Vial.ok_iff.1 hv
  have := Int.mul_le_mul_of_nonneg_right (c := v.v0) h (by omega)
  unfold leastP mostP; omega
theorem rdsOk_len {v : Vial} {l : List Rd} (h : rdsOk v l = true) : 1 ≤ l.length ∧ l.length ≤ 8 := by
  simp only [rdsOk, inB, Bool.and_eq_true, decide_eq_true_eq] at h; omega
theorem asked_zero {v : Vial} {l : List Rd} (h : asked v l = 0) : v.ok = true ∧ rdsOk v l = true := by
  unfold asked at h
  cases hv : v.ok <;> cases hr : rdsOk v l <;> simp [hv, hr] at h ⊢
/-- What Tilt hands back. -/
structure TE where
  tilt : Span
  zero : Span
  e : Int
  deriving DecidableEq
def TE.t (x : TE) : TV := .tup [x.tilt.t, x.zero.t, .int .i64 x.e]
def tiltR (v : Vial) (l : List Rd) : TE :=
  if asked v l = 0 then (if (tilts v (l.map mid)).is then ⟨(tilts v (l.map mid)).tilt, (tilts v (l.map mid)).zero, 0⟩ else ⟨⟨0, 0⟩, ⟨0, 0⟩, 33⟩)
  else ⟨⟨0, 0⟩, ⟨0, 0⟩, asked v l⟩
theorem tilts_to (v : Vial) (l : List Mk) : tilts v l = tiltsTo v l (v.z1 - v.z0 + 1).toNat := rfl
end Go.Oc.Lv

/- Part Lu. -/
namespace Go.Oc.Lv
end Go.Oc.Lv
namespace Go.Proofs.Ytadkjjnnnkfalaa.Lv
end Go.Proofs.Ytadkjjnnnkfalaa.Lv
namespace Go.Proofs.Ytadkjjnnnkfalaa.Lv
open Go.RowKit Go.Pm Go.Oc Go.Oc.Lv
set_option maxRecDepth 100000
set_option linter.unusedVariables false
set_option maxHeartbeats 1000000

def Mk.al (m : Mk) : TV := .ifc 220 (.agg [.int .i64 m.at', .fn (if m.tu then 126 else 125) [] []])
def Mk.als (m : Mk) : List TV := [Mk.al m]
def unAls : List TV → Option (List Mk)
  | [] => some []
  | .ifc 220 (.agg [.int .i64 a, .fn 125 [] []]) :: r => (unAls r).map (⟨a, false⟩ :: ·)
  | .ifc 220 (.agg [.int .i64 a, .fn 126 [] []]) :: r => (unAls r).map (⟨a, true⟩ :: ·)
  | _ => none
theorem unAls_eq : ∀ l : List Mk, unAls (l.flatMap Mk.als) = some l
  | [] => rfl
  | ⟨a, tu⟩ :: l => by cases tu <;> simp [Mk.als, Mk.al, unAls, unAls_eq l]
theorem unAls_some : ∀ {cs : List TV} {l : List Mk}, unAls cs = some l → cs = l.flatMap Mk.als := by
  intro cs
  induction cs using unAls.induct with
  | case1 => intro l h; simp [unAls] at h; subst h; rfl
  | case2 a r ih =>
    intro l h
    simp only [unAls, Option.map_eq_some_iff] at h
    obtain ⟨l', h1, rfl⟩ := h
    rw [ih h1]; rfl
  | case3 a r ih =>
    intro l h
    simp only [unAls, Option.map_eq_some_iff] at h
    obtain ⟨l', h1, rfl⟩ := h
    rw [ih h1]; rfl
  | case4 r h1 h2 h3 =>
    intro l h
    unfold unAls at h
    split at h
    · exact absurd rfl h1
    · exact absurd rfl (h2 _ _)
    · exact absurd rfl (h3 _ _)
    · cases h
attribute [go_sem] unAls_eq

theorem lWithin_c (n lo hi : Int) : PCalls Try.prog 71 [.int .i64 n, .int .i64 lo, .int .i64 hi] (.bool (inB n lo hi)) := by
  refine pcalls_by Try.mixes noSpec_ok (fn := Try.f71) Try.func71 rfl (by kernel_rfl) (by show 3 ≤ _; decide) ?_
  simp (decide := true) (maxSteps := 4000000) only [go_sem, Nat.reduceAdd, Nat.reduceSub, Nat.reduceMul, Nat.reduceDiv, Nat.reduceMod, Nat.reduceLT, Nat.reduceLeDiff, Nat.reduceEqDiff, Nat.reduceBEq, Nat.reduceBNe, Nat.reduceGT, Int.reduceAdd, Int.reduceSub, Int.reduceMul, Int.reduceNeg, Int.reduceLT, Int.reduceLE, Int.reduceEq, Int.reduceNe, Int.reduceBEq, Int.reduceBNe, Int.reduceToNat, Int.reduceGT, Int.reduceGE, ↓reduceIte, decide_true, decide_false, Try.f71, inB]
theorem lSpanned_c (s : Span) (lo hi : Int) : PCalls Try.prog 75 [s.t, .int .i64 lo, .int .i64 hi] (.bool (spannedB s lo hi)) := by
  refine pcalls_by Try.mixes noSpec_ok (fn := Try.f75) Try.func75 rfl (by kernel_rfl) (by show 3 ≤ _; decide) ?_
  simp (decide := true) (maxSteps := 4000000) only [go_sem, Nat.reduceAdd, Nat.reduceSub, Nat.reduceMul, Nat.reduceDiv, Nat.reduceMod, Nat.reduceLT, Nat.reduceLeDiff, Nat.reduceEqDiff, Nat.reduceBEq, Nat.reduceBNe, Nat.reduceGT, Int.reduceAdd, Int.reduceSub, Int.reduceMul, Int.reduceNeg, Int.reduceLT, Int.reduceLE, Int.reduceEq, Int.reduceNe, Int.reduceBEq, Int.reduceBNe, Int.reduceToNat, Int.reduceGT, Int.reduceGE, ↓reduceIte, decide_true, decide_false, Try.f75, Span.t, Span.cs, spannedB]
theorem lMarked1_c (m z : Int) : PCalls Try.prog 125 [.int .i64 m, .int .i64 z] (.int .i64 (IntKind.i64.wrap (m - z))) := by
  refine pcalls_by Try.mixes noSpec_ok (fn := Try.f125) Try.func125 rfl (by kernel_rfl) (by show 2 ≤ _; decide) ?_
  simp (decide := true) (maxSteps := 4000000) only [go_sem, Nat.reduceAdd, Nat.reduceSub, Nat.reduceMul, Nat.reduceDiv, Nat.reduceMod, Nat.reduceLT, Nat.reduceLeDiff, Nat.reduceEqDiff, Nat.reduceBEq, Nat.reduceBNe, Nat.reduceGT, Int.reduceAdd, Int.reduceSub, Int.reduceMul, Int.reduceNeg, Int.reduceLT, Int.reduceLE, Int.reduceEq, Int.reduceNe, Int.reduceBEq, Int.reduceBNe, Int.reduceToNat, Int.reduceGT, Int.reduceGE, ↓reduceIte, decide_true, decide_false, Try.f125]
theorem lMarked2_c (m z : Int) : PCalls Try.prog 126 [.int .i64 m, .int .i64 z] (.int .i64 (IntKind.i64.wrap (z - m))) := by
  refine pcalls_by Try.mixes noSpec_ok (fn := Try.f126) Try.func126 rfl (by kernel_rfl) (by show 2 ≤ _; decide) ?_
  simp (decide := true) (maxSteps := 4000000) only [go_sem, Nat.reduceAdd, Nat.reduceSub, Nat.reduceMul, Nat.reduceDiv, Nat.reduceMod, Nat.reduceLT, Nat.reduceLeDiff, Nat.reduceEqDiff, Nat.reduceBEq, Nat.reduceBNe, Nat.reduceGT, Int.reduceAdd, Int.reduceSub, Int.reduceMul, Int.reduceNeg, Int.reduceLT, Int.reduceLE, Int.reduceEq, Int.reduceNe, Int.reduceBEq, Int.reduceBNe, Int.reduceToNat, Int.reduceGT, Int.reduceGE, ↓reduceIte, decide_true, decide_false, Try.f126]
theorem lMarked_c (m : Int) (tu : Bool) : PCalls Try.prog 109 [.int .i64 m, .bool tu] (.agg [.int .i64 m, .fn (if tu then 126 else 125) [] []]) := by
  refine pcalls_by Try.mixes noSpec_ok (fn := Try.f109) Try.func109 rfl (by kernel_rfl) (by show 2 ≤ _; decide) ?_
  cases tu <;> simp (decide := true) (maxSteps := 4000000) only [go_sem, Nat.reduceAdd, Nat.reduceSub, Nat.reduceMul, Nat.reduceDiv, Nat.reduceMod, Nat.reduceLT, Nat.reduceLeDiff, Nat.reduceEqDiff, Nat.reduceBEq, Nat.reduceBNe, Nat.reduceGT, Int.reduceAdd, Int.reduceSub, Int.reduceMul, Int.reduceNeg, Int.reduceLT, Int.reduceLE, Int.reduceEq, Int.reduceNe, Int.reduceBEq, Int.reduceBNe, Int.reduceToNat, Int.reduceGT, Int.reduceGE, ↓reduceIte, decide_true, decide_false, Try.f109]
noncomputable def glWithin : List TV → Option TV
  | [.int .i64 n, .int .i64 a, .int .i64 b] => some (.bool (inB n a b))
  | _ => none
theorem glWithin_ok : ∀ xs r, glWithin xs = some r → PCalls Try.prog 71 xs r := by
  intro xs r h
  unfold glWithin at h
  split at h
  · cases h; exact lWithin_c _ _ _
  · cases h
attribute [go_sem] glWithin
noncomputable def glSpanned : List TV → Option TV
  | [.agg [.int .i64 x, .int .i64 y], .int .i64 a, .int .i64 b] => some (.bool (spannedB ⟨x, y⟩ a b))
  | _ => none
theorem glSpanned_ok : ∀ xs r, glSpanned xs = some r → PCalls Try.prog 75 xs r := by
  intro xs r h
  unfold glSpanned at h
  split at h
  · cases h; exact lSpanned_c ⟨_, _⟩ _ _
  · cases h
attribute [go_sem] glSpanned
noncomputable def glMarked1 : List TV → Option TV
  | [.int .i64 m, .int .i64 z] => some (.int .i64 (IntKind.i64.wrap (m - z)))
  | _ => none
theorem glMarked1_ok : ∀ xs r, glMarked1 xs = some r → PCalls Try.prog 125 xs r := by
  intro xs r h
  unfold glMarked1 at h
  split at h
  · cases h; exact lMarked1_c _ _
  · cases h
attribute [go_sem] glMarked1
noncomputable def glMarked2 : List TV → Option TV
  | [.int .i64 m, .int .i64 z] => some (.int .i64 (IntKind.i64.wrap (z - m)))
  | _ => none
theorem glMarked2_ok : ∀ xs r, glMarked2 xs = some r → PCalls Try.prog 126 xs r := by
  intro xs r h
  unfold glMarked2 at h
  split at h
  · cases h; exact lMarked2_c _ _
  · cases h
attribute [go_sem] glMarked2
noncomputable def glMarked : List TV → Option TV
  | [.int .i64 m, .bool tu] => some (.agg [.int .i64 m, .fn (if tu then 126 else 125) [] []])
  | _ => none
theorem glMarked_ok : ∀ xs r, glMarked xs = some r → PCalls Try.prog 109 xs r := by
  intro xs r h
  unfold glMarked at h
  split at h
  · cases h; exact lMarked_c _ _
  · cases h
attribute [go_sem] glMarked
noncomputable def spL1 : Pm.Spec := ((((noSpec.one 71 glWithin).one 75 glSpanned).one 125 glMarked1).one 126 glMarked2).one 109 glMarked
@[go_sem] theorem spL1_p (f : FuncId) (xs : List TV) : spL1.p f xs = Pm.Spec.p (((((noSpec.one 71 glWithin).one 75 glSpanned).one 125 glMarked1).one 126 glMarked2).one 109 glMarked) f xs := rfl
@[go_sem] theorem spL1_h (f : FuncId) (ps : List PV) (hl : List PO) : spL1.h f ps hl = Pm.Spec.h (((((noSpec.one 71 glWithin).one 75 glSpanned).one 125 glMarked1).one 126 glMarked2).one 109 glMarked) f ps hl := rfl
@[go_sem] theorem spL1_y (Y : Pm.YS) (f : FuncId) (ps : List PV) (hl : List PO) : spL1.y Y f ps hl = Pm.Spec.y (((((noSpec.one 71 glWithin).one 75 glSpanned).one 125 glMarked1).one 126 glMarked2).one 109 glMarked) Y f ps hl := rfl
@[go_sem] theorem spL1_fz (f : FuncId) : spL1.fz f = Pm.Spec.fz (((((noSpec.one 71 glWithin).one 75 glSpanned).one 125 glMarked1).one 126 glMarked2).one 109 glMarked) f := rfl
@[go_sem] theorem spL1_fr (f : FuncId) : spL1.fr f = Pm.Spec.fr (((((noSpec.one 71 glWithin).one 75 glSpanned).one 125 glMarked1).one 126 glMarked2).one 109 glMarked) f := rfl
@[go_sem] theorem spL1_yf (f : FuncId) : spL1.yf f = Pm.Spec.yf (((((noSpec.one 71 glWithin).one 75 glSpanned).one 125 glMarked1).one 126 glMarked2).one 109 glMarked) f := rfl
@[go_sem] theorem spL1_mu (t : TypeId) : spL1.mu t = Pm.Spec.mu (((((noSpec.one 71 glWithin).one 75 glSpanned).one 125 glMarked1).one 126 glMarked2).one 109 glMarked) t := rfl
@[go_sem] theorem spL1_nf (t : TypeId) : spL1.nf t = Pm.Spec.nf (((((noSpec.one 71 glWithin).one 75 glSpanned).one 125 glMarked1).one 126 glMarked2).one 109 glMarked) t := rfl
theorem spL1_ok : SpecOk Try.prog spL1 := Spec.one_ok glMarked_ok (Spec.one_ok glMarked2_ok (Spec.one_ok glMarked1_ok (Spec.one_ok glSpanned_ok (Spec.one_ok glWithin_ok noSpec_ok))))
theorem lBounds_c (m : Mk) (z w : Int) (hm : inB m.at' 0 400 = true) (hz : 0 ≤ z ∧ z ≤ 400) (hw : 0 ≤ w ∧ w ≤ 8) : PCalls Try.prog 152 [.agg [.int .i64 m.at', .fn (if m.tu then 126 else 125) [] []], .int .i64 z, .int .i64 w] (.agg [.int .i64 (outM m z - w), .int .i64 (outM m z + w)]) := by
  refine pcalls_by Try.mixes spL1_ok (fn := Try.f152) Try.func152 rfl (by kernel_rfl) (by show 3 ≤ _; decide) ?_
  obtain ⟨a, tu⟩ := m
  have hm' := inB_iff.1 hm
  simp only at hm'
  cases tu <;> simp (decide := true) (maxSteps := 4000000) only [go_sem, Nat.reduceAdd, Nat.reduceSub, Nat.reduceMul, Nat.reduceDiv, Nat.reduceMod, Nat.reduceLT, Nat.reduceLeDiff, Nat.reduceEqDiff, Nat.reduceBEq, Nat.reduceBNe, Nat.reduceGT, Int.reduceAdd, Int.reduceSub, Int.reduceMul, Int.reduceNeg, Int.reduceLT, Int.reduceLE, Int.reduceEq, Int.reduceNe, Int.reduceBEq, Int.reduceBNe, Int.reduceToNat, Int.reduceGT, Int.reduceGE, ↓reduceIte, decide_true, decide_false, Try.f152, outM]
  all_goals simp (disch := omega) only [wrap_in, and_self, true_and, and_true]

theorem lCheck_c (v : Vial) : PCalls Try.prog 108 [v.t] (.int .i64 (if v.ok then 0 else 30)) := by
  refine pcalls_by Try.mixes spL1_ok (fn := Try.f108) Try.func108 rfl (by kernel_rfl) (by show 1 ≤ _; decide) ?_
  simp (decide := true) (maxSteps := 4000000) only [go_sem, Nat.reduceAdd, Nat.reduceSub, Nat.reduceMul, Nat.reduceDiv, Nat.reduceMod, Nat.reduceLT, Nat.reduceLeDiff, Nat.reduceEqDiff, Nat.reduceBEq, Nat.reduceBNe, Nat.reduceGT, Int.reduceAdd, Int.reduceSub, Int.reduceMul, Int.reduceNeg, Int.reduceLT, Int.reduceLE, Int.reduceEq, Int.reduceNe, Int.reduceBEq, Int.reduceBNe, Int.reduceToNat, Int.reduceGT, Int.reduceGE, ↓reduceIte, decide_true, decide_false, Try.f108, Vial.t, Vial.cs]
  cases h1 : inB v.marks 10 200 with
  | false => simp (decide := true) (maxSteps := 4000000) only [go_sem, Nat.reduceAdd, Nat.reduceSub, Nat.reduceMul, Nat.reduceDiv, Nat.reduceMod, Nat.reduceLT, Nat.reduceLeDiff, Nat.reduceEqDiff, Nat.reduceBEq, Nat.reduceBNe, Nat.reduceGT, Int.reduceAdd, Int.reduceSub, Int.reduceMul, Int.reduceNeg, Int.reduceLT, Int.reduceLE, Int.reduceEq, Int.reduceNe, Int.reduceBEq, Int.reduceBNe, Int.reduceToNat, Int.reduceGT, Int.reduceGE, ↓reduceIte, decide_true, decide_false, h1, Vial.ok]
  | true =>
    have h1' := inB_iff.1 h1
    have e : IntKind.i64.wrap (2 * v.marks) = 2 * v.marks := wrap_in (by omega) (by omega)
    cases h2 : spannedB ⟨v.l0, v.l1⟩ 1 v.marks <;> cases h3 : spannedB ⟨v.v0, v.v1⟩ 1 500 <;> cases h4 : spannedB ⟨v.z0, v.z1⟩ 0 (2 * v.marks) <;> cases h5 : inB v.wr 0 8 <;> simp (decide := true) (maxSteps := 4000000) only [go_sem, Nat.reduceAdd, Nat.reduceSub, Nat.reduceMul, Nat.reduceDiv, Nat.reduceMod, Nat.reduceLT, Nat.reduceLeDiff, Nat.reduceEqDiff, Nat.reduceBEq, Nat.reduceBNe, Nat.reduceGT, Int.reduceAdd, Int.reduceSub, Int.reduceMul, Int.reduceNeg, Int.reduceLT, Int.reduceLE, Int.reduceEq, Int.reduceNe, Int.reduceBEq, Int.reduceBNe, Int.reduceToNat, Int.reduceGT, Int.reduceGE, ↓reduceIte, decide_true, decide_false, h1, h2, h3, h4, h5, e, Vial.ok]
noncomputable def glCheck : List TV → Option TV
  | [.agg [.int .i64 m, .int .i64 a, .int .i64 b, .int .i64 c, .int .i64 d, .int .i64 e, .int .i64 f, .int .i64 g]] => some (.int .i64 (if Vial.ok ⟨m, a, b, c, d, e, f, g⟩ then 0 else 30))
  | _ => none
theorem glCheck_ok : ∀ xs r, glCheck xs = some r → PCalls Try.prog 108 xs r := by
  intro xs r h
  unfold glCheck at h
  split at h
  · cases h; exact lCheck_c ⟨_, _, _, _, _, _, _, _⟩
  · cases h
attribute [go_sem] glCheck
noncomputable def glBounds (xs : List TV) : Option TV := match xs with
  | [.agg [.int .i64 m, .fn 125 [] []], .int .i64 z, .int .i64 w] => if inB m 0 400 = true ∧ (0 ≤ z ∧ z ≤ 400) ∧ (0 ≤ w ∧ w ≤ 8) then some (.agg [.int .i64 (m - z - w), .int .i64 (m - z + w)]) else none
  | [.agg [.int .i64 m, .fn 126 [] []], .int .i64 z, .int .i64 w] => if inB m 0 400 = true ∧ (0 ≤ z ∧ z ≤ 400) ∧ (0 ≤ w ∧ w ≤ 8) then some (.agg [.int .i64 (z - m - w), .int .i64 (z - m + w)]) else none
  | _ => none
theorem glBounds_ok : ∀ xs r, glBounds xs = some r → PCalls Try.prog 152 xs r := by
  intro xs r h
  unfold glBounds at h
  split at h
  · split at h
    · rename_i hc; cases h; exact lBounds_c ⟨_, false⟩ _ _ hc.1 hc.2.1 hc.2.2
    · cases h
  · split at h
    · rename_i hc; cases h; exact lBounds_c ⟨_, true⟩ _ _ hc.1 hc.2.1 hc.2.2
    · cases h
  · cases h
attribute [go_sem] glBounds
noncomputable def spL2 : Pm.Spec := (spL1.one 108 glCheck).one 152 glBounds
@[go_sem] theorem spL2_p (f : FuncId) (xs : List TV) : spL2.p f xs = Pm.Spec.p ((spL1.one 108 glCheck).one 152 glBounds) f xs := rfl
@[go_sem] theorem spL2_h (f : FuncId) (ps : List PV) (hl : List PO) : spL2.h f ps hl = Pm.Spec.h ((spL1.one 108 glCheck).one 152 glBounds) f ps hl := rfl
@[go_sem] theorem spL2_y (Y : Pm.YS) (f : FuncId) (ps : List PV) (hl : List PO) : spL2.y Y f ps hl = Pm.Spec.y ((spL1.one 108 glCheck).one 152 glBounds) Y f ps hl := rfl
@[go_sem] theorem spL2_fz (f : FuncId) : spL2.fz f = Pm.Spec.fz ((spL1.one 108 glCheck).one 152 glBounds) f := rfl
@[go_sem] theorem spL2_fr (f : FuncId) : spL2.fr f = Pm.Spec.fr ((spL1.one 108 glCheck).one 152 glBounds) f := rfl
@[go_sem] theorem spL2_yf (f : FuncId) : spL2.yf f = Pm.Spec.yf ((spL1.one 108 glCheck).one 152 glBounds) f := rfl
@[go_sem] theorem spL2_mu (t : TypeId) : spL2.mu t = Pm.Spec.mu ((spL1.one 108 glCheck).one 152 glBounds) t := rfl
@[go_sem] theorem spL2_nf (t : TypeId) : spL2.nf t = Pm.Spec.nf ((spL1.one 108 glCheck).one 152 glBounds) t := rfl
theorem spL2_ok : SpecOk Try.prog spL2 := Spec.one_ok glBounds_ok (Spec.one_ok glCheck_ok spL1_ok)
end Go.Proofs.Ytadkjjnnnkfalaa.Lv

/- Part Lw. -/
namespace Go.Oc.Lv
end Go.Oc.Lv
namespace Go.Proofs.Ytadkjjnnnkfalaa.Lv
end Go.Proofs.Ytadkjjnnnkfalaa.Lv
namespace Go.Proofs.Ytadkjjnnnkfalaa.Lv
open Go.RowKit Go.Pm Go.Oc Go.Oc.Lv
set_option maxRecDepth 100000
set_option linter.unusedVariables false
set_option maxHeartbeats 1000000

def midW (r : Rd) : Mk := ⟨IntKind.i64.wrap (r.left + r.right), r.turned⟩
theorem rdsOk_mem {v : Vial} {l : List Rd} (h : rdsOk v l = true) {r : Rd} (hr : r ∈ l) : 0 ≤ r.left ∧ r.left < r.right ∧ r.right ≤ v.marks ∧ v.l0 - v.wr ≤ r.right - r.left ∧ r.right - r.left ≤ v.l1 + v.wr := by
  simp only [rdsOk, Bool.and_eq_true, List.all_eq_true] at h
  have := h.2 r hr
  simp only [rdOk, inB, Bool.and_eq_true, decide_eq_true_eq] at this
  omega
theorem rdP_eq {v : Vial} (hv : (10 ≤ v.marks ∧ v.marks ≤ 200) ∧ (1 ≤ v.l0 ∧ v.l0 ≤ v.l1 ∧ v.l1 ≤ v.marks) ∧ (1 ≤ v.v0 ∧ v.v0 ≤ v.v1 ∧ v.v1 ≤ 500) ∧ (0 ≤ v.z0 ∧ v.z0 ≤ v.z1 ∧ v.z1 ≤ 2 * v.marks) ∧ 0 ≤ v.wr ∧ v.wr ≤ 8) (x : Rd) :
    (decide (x.left ≥ 0) && decide (x.right > x.left) && decide (x.right ≤ v.marks) && inB (IntKind.i64.wrap (x.right - x.left)) (v.l0 - v.wr) (v.l1 + v.wr)) = rdOk v x := by
  unfold rdOk
  by_cases h1 : 0 ≤ x.left ∧ x.left < x.right ∧ x.right ≤ v.marks
  · rw [wrap_in (by omega) (by omega)]
    have a1 : x.left ≥ 0 := h1.1
    have a2 : x.right > x.left := h1.2.1
    have a3 : inB x.left 0 v.marks = true := inB_iff.2 (by omega)
    have a4 : inB x.right (x.left + 1) v.marks = true := inB_iff.2 (by omega)
    simp [a1, a2, h1.2.2, a3, a4]
  · have h2 : (decide (x.left ≥ 0) && decide (x.right > x.left) && decide (x.right ≤ v.marks)) = false := by
      rw [← Bool.not_eq_true]
      simp only [Bool.and_eq_true, decide_eq_true_eq]
      omega
    have h3 : (inB x.left 0 v.marks && inB x.right (x.left + 1) v.marks) = false := by
      rw [← Bool.not_eq_true]
      simp only [Bool.and_eq_true, inB_iff]
      omega
    rw [h2, h3]; rfl
theorem lOpened_c (v : Vial) {l : List Rd} (full : Bool) (hv : v.ok = true) (hl : l.length ≤ 5864062014806) : PCalls Try.prog 70 [v.t, .sl (l.flatMap Rd.cs) l.length full] (if rdsOk v l = true then .tup [v.t, .sl ((l.map mid).flatMap Mk.als) l.length false, .int .i64 0] else .tup [v.t, .nilSl, .int .i64 31]) := by
  have hv' := Vial.ok_iff.1 hv
  refine pcalls_by Try.mixes spL2_ok (fn := Try.f70) Try.func70 rfl (by kernel_rfl) (by show 2 ≤ _; decide) ?_
  simp (decide := true) (maxSteps := 4000000) only [go_sem, Nat.reduceAdd, Nat.reduceSub, Nat.reduceMul, Nat.reduceDiv, Nat.reduceMod, Nat.reduceLT, Nat.reduceLeDiff, Nat.reduceEqDiff, Nat.reduceBEq, Nat.reduceBNe, Nat.reduceGT, Int.reduceAdd, Int.reduceSub, Int.reduceMul, Int.reduceNeg, Int.reduceLT, Int.reduceLE, Int.reduceEq, Int.reduceNe, Int.reduceBEq, Int.reduceBNe, Int.reduceToNat, Int.reduceGT, Int.reduceGE, ↓reduceIte, decide_true, decide_false, Try.f70, Vial.t, Vial.cs, hv]
  refine pwpC_loop (A := { k : Nat // k ≤ l.length }) (fun k => { env := [(24, .t (.int .i64 k.1)), (23, .t (.int .i64 l.length)), (22, .t (.sl (l.flatMap Rd.cs) l.length full)), (8, .t (.bool (inB l.length 1 8 && (l.take k.1).all (rdOk v)))), (5, .own (((l.take k.1).map midW).flatMap Mk.als) k.1 2), (4, .ptr 1 0), (2, .ptr 0 0)], heap := [.box (v.cs.map .t), .box (v.cs.map .t), .tok k.1 172] }) (fun k => l.length - k.1) ⟨0, by omega⟩ ?_ (fun k => by rfl) fun ⟨k, hk⟩ => ?_
  · simp (decide := true) (maxSteps := 4000000) only [go_sem, Nat.reduceAdd, Nat.reduceSub, Nat.reduceMul, Nat.reduceDiv, Nat.reduceMod, Nat.reduceLT, Nat.reduceLeDiff, Nat.reduceEqDiff, Nat.reduceBEq, Nat.reduceBNe, Nat.reduceGT, Int.reduceAdd, Int.reduceSub, Int.reduceMul, Int.reduceNeg, Int.reduceLT, Int.reduceLE, Int.reduceEq, Int.reduceNe, Int.reduceBEq, Int.reduceBNe, Int.reduceToNat, Int.reduceGT, Int.reduceGE, ↓reduceIte, decide_true, decide_false, Vial.cs]
  · by_cases hlt : (k : Int) < l.length
    · obtain ⟨x, hx⟩ := get_lt hlt
      have hd := flat_at Rd.cs (n := 3) (fun _ => rfl) hx
      have hc : (List.flatMap Mk.als (List.map midW (List.take k l))).length = k * 1 := by rw [flat_len Mk.als (n := 1) (fun _ => rfl)]; simp; omega
      have hr : (k + 1) * 16 ≤ 140737488355328 := by omega
      have hk1 : IntKind.i64.wrap (k + 1) = ((k + 1 : Nat) : Int) := by rw [wrap_in (by omega) (by omega)]; omega
      have ht : (List.take (k + 1) l).map midW = (List.take k l).map midW ++ [midW x] := by rw [take_snoc hx]; simp
      have e1 : IntKind.i64.wrap (v.l0 - v.wr) = v.l0 - v.wr := wrap_in (by omega) (by omega)
      have e2 : IntKind.i64.wrap (v.l1 + v.wr) = v.l1 + v.wr := wrap_in (by omega) (by omega)
      simp (decide := true) (maxSteps := 4000000) only [go_sem, Nat.reduceAdd, Nat.reduceSub, Nat.reduceMul, Nat.reduceDiv, Nat.reduceMod, Nat.reduceLT, Nat.reduceLeDiff, Nat.reduceEqDiff, Nat.reduceBEq, Nat.reduceBNe, Nat.reduceGT, Int.reduceAdd, Int.reduceSub, Int.reduceMul, Int.reduceNeg, Int.reduceLT, Int.reduceLE, Int.reduceEq, Int.reduceNe, Int.reduceBEq, Int.reduceBNe, Int.reduceToNat, Int.reduceGT, Int.reduceGE, ↓reduceIte, decide_true, decide_false, hlt, hd, Rd.cs, Vial.cs, hc, hr]
      refine ⟨⟨k + 1, by omega⟩, ?_⟩
      simp (decide := true) (maxSteps := 4000000) only [go_sem, Nat.reduceAdd, Nat.reduceSub, Nat.reduceMul, Nat.reduceDiv, Nat.reduceMod, Nat.reduceLT, Nat.reduceLeDiff, Nat.reduceEqDiff, Nat.reduceBEq, Nat.reduceBNe, Nat.reduceGT, Int.reduceAdd, Int.reduceSub, Int.reduceMul, Int.reduceNeg, Int.reduceLT, Int.reduceLE, Int.reduceEq, Int.reduceNe, Int.reduceBEq, Int.reduceBNe, Int.reduceToNat, Int.reduceGT, Int.reduceGE, ↓reduceIte, decide_true, decide_false, hk1, ht, List.flatMap_append, Mk.als, Mk.al, midW, e1, e2]
      refine ⟨?_, by omega⟩
      rw [take_all _ hx, ← Bool.and_assoc]
      cases (inB l.length 1 8 && (l.take k).all (rdOk v))
      · simp
      · simp only [Bool.true_and]; exact rdP_eq hv' x
    · have hkl : k = l.length := by omega
      subst hkl
      have hrd : rdsOk v l = (inB l.length 1 8 && (l.take l.length).all (rdOk v)) := by rw [List.take_length]; rfl
      cases hr : rdsOk v l with
      | true =>
        rw [hr] at hrd
        have h8 := rdsOk_len hr
        have h0 : ¬ l.length = 0 := by omega
        have hmm : (l.take l.length).map midW = l.map mid := by
          rw [List.take_length]
          refine List.map_congr_left fun r hr' => ?_
          have := rdsOk_mem hr hr'
          unfold midW mid
          rw [wrap_in (by omega) (by omega)]
        simp (decide := true) (maxSteps := 4000000) only [go_sem, Nat.reduceAdd, Nat.reduceSub, Nat.reduceMul, Nat.reduceDiv, Nat.reduceMod, Nat.reduceLT, Nat.reduceLeDiff, Nat.reduceEqDiff, Nat.reduceBEq, Nat.reduceBNe, Nat.reduceGT, Int.reduceAdd, Int.reduceSub, Int.reduceMul, Int.reduceNeg, Int.reduceLT, Int.reduceLE, Int.reduceEq, Int.reduceNe, Int.reduceBEq, Int.reduceBNe, Int.reduceToNat, Int.reduceGT, Int.reduceGE, ↓reduceIte, decide_true, decide_false, hlt, ← hrd, Vial.cs, h0, hmm]
      | false =>
        rw [hr] at hrd
        simp (decide := true) (maxSteps := 4000000) only [go_sem, Nat.reduceAdd, Nat.reduceSub, Nat.reduceMul, Nat.reduceDiv, Nat.reduceMod, Nat.reduceLT, Nat.reduceLeDiff, Nat.reduceEqDiff, Nat.reduceBEq, Nat.reduceBNe, Nat.reduceGT, Int.reduceAdd, Int.reduceSub, Int.reduceMul, Int.reduceNeg, Int.reduceLT, Int.reduceLE, Int.reduceEq, Int.reduceNe, Int.reduceBEq, Int.reduceBNe, Int.reduceToNat, Int.reduceGT, Int.reduceGE, ↓reduceIte, decide_true, decide_false, hlt, ← hrd, Vial.cs]
theorem lOpened_v (v : Vial) {l : List Rd} {s : TV} (hs : IsRow Rd.cs s l) (hv : v.ok = false) : PCalls Try.prog 70 [v.t, s] (.tup [(Vial.t ⟨0, 0, 0, 0, 0, 0, 0, 0⟩), .nilSl, .int .i64 30]) := by
  refine pcalls_by Try.mixes spL2_ok (fn := Try.f70) Try.func70 rfl (by kernel_rfl) (by show 2 ≤ _; decide) ?_
  rcases hs with ⟨rfl, rfl⟩ | ⟨full, rfl⟩ <;> simp (decide := true) (maxSteps := 4000000) only [go_sem, Nat.reduceAdd, Nat.reduceSub, Nat.reduceMul, Nat.reduceDiv, Nat.reduceMod, Nat.reduceLT, Nat.reduceLeDiff, Nat.reduceEqDiff, Nat.reduceBEq, Nat.reduceBNe, Nat.reduceGT, Int.reduceAdd, Int.reduceSub, Int.reduceMul, Int.reduceNeg, Int.reduceLT, Int.reduceLE, Int.reduceEq, Int.reduceNe, Int.reduceBEq, Int.reduceBNe, Int.reduceToNat, Int.reduceGT, Int.reduceGE, ↓reduceIte, decide_true, decide_false, Try.f70, Vial.t, Vial.cs, hv]
theorem lOpened_n (v : Vial) (hv : v.ok = true) : PCalls Try.prog 70 [v.t, .nilSl] (.tup [v.t, .nilSl, .int .i64 31]) := by
  refine pcalls_by Try.mixes spL2_ok (fn := Try.f70) Try.func70 rfl (by kernel_rfl) (by show 2 ≤ _; decide) ?_
  simp (decide := true) (maxSteps := 4000000) only [go_sem, Nat.reduceAdd, Nat.reduceSub, Nat.reduceMul, Nat.reduceDiv, Nat.reduceMod, Nat.reduceLT, Nat.reduceLeDiff, Nat.reduceEqDiff, Nat.reduceBEq, Nat.reduceBNe, Nat.reduceGT, Int.reduceAdd, Int.reduceSub, Int.reduceMul, Int.reduceNeg, Int.reduceLT, Int.reduceLE, Int.reduceEq, Int.reduceNe, Int.reduceBEq, Int.reduceBNe, Int.reduceToNat, Int.reduceGT, Int.reduceGE, ↓reduceIte, decide_true, decide_false, Try.f70, Vial.t, Vial.cs, hv]
  refine pwpC_loop (A := Unit) (fun k => { env := [(24, .t (.int .i64 0)), (23, .t (.int .i64 0)), (8, .t (.bool false)), (4, .ptr 1 0), (2, .ptr 0 0)], heap := [.box (v.cs.map .t), .box (v.cs.map .t)] }) (fun _ => 0) () ?_ (fun k => by rfl) fun _ => ?_
  · simp (decide := true) (maxSteps := 4000000) only [go_sem, Nat.reduceAdd, Nat.reduceSub, Nat.reduceMul, Nat.reduceDiv, Nat.reduceMod, Nat.reduceLT, Nat.reduceLeDiff, Nat.reduceEqDiff, Nat.reduceBEq, Nat.reduceBNe, Nat.reduceGT, Int.reduceAdd, Int.reduceSub, Int.reduceMul, Int.reduceNeg, Int.reduceLT, Int.reduceLE, Int.reduceEq, Int.reduceNe, Int.reduceBEq, Int.reduceBNe, Int.reduceToNat, Int.reduceGT, Int.reduceGE, ↓reduceIte, decide_true, decide_false, Vial.cs, inB]
  · simp (decide := true) (maxSteps := 4000000) only [go_sem, Nat.reduceAdd, Nat.reduceSub, Nat.reduceMul, Nat.reduceDiv, Nat.reduceMod, Nat.reduceLT, Nat.reduceLeDiff, Nat.reduceEqDiff, Nat.reduceBEq, Nat.reduceBNe, Nat.reduceGT, Int.reduceAdd, Int.reduceSub, Int.reduceMul, Int.reduceNeg, Int.reduceLT, Int.reduceLE, Int.reduceEq, Int.reduceNe, Int.reduceBEq, Int.reduceBNe, Int.reduceToNat, Int.reduceGT, Int.reduceGE, ↓reduceIte, decide_true, decide_false, Vial.cs]
def openedT (v : Vial) (l : List Rd) : TV := if v.ok = false then .tup [(Vial.t ⟨0, 0, 0, 0, 0, 0, 0, 0⟩), .nilSl, .int .i64 30] else if rdsOk v l = true then .tup [v.t, .sl ((l.map mid).flatMap Mk.als) l.length false, .int .i64 0] else .tup [v.t, .nilSl, .int .i64 31]
theorem lOpened_d (v : Vial) {l : List Rd} {s : TV} (hs : IsRow Rd.cs s l) (hl : l.length ≤ 5864062014806) : PCalls Try.prog 70 [v.t, s] (openedT v l) := by
  unfold openedT
  cases hv : v.ok with
  | false => exact lOpened_v v hs hv
  | true =>
    rw [if_neg (by simp)]
    rcases hs with ⟨rfl, rfl⟩ | ⟨full, rfl⟩
    · exact lOpened_n v hv
    · exact lOpened_c v full hv hl
noncomputable def glOpened : List TV → Option TV
  | [.agg [.int .i64 m, .int .i64 a, .int .i64 b, .int .i64 c, .int .i64 d, .int .i64 e, .int .i64 f, .int .i64 g], s] => match rowL unRds s with
    | some l => if l.length ≤ 5864062014806 then some (openedT ⟨m, a, b, c, d, e, f, g⟩ l) else none
    | none => none
  | _ => none
theorem glOpened_ok : ∀ xs r, glOpened xs = some r → PCalls Try.prog 70 xs r := by
  intro xs r h
  unfold glOpened at h
  split at h
  · split at h
    · rename_i l hl
      have hl := rowL_some (un := unRds) (by first | rfl | exact unRds_nil) (@unRds_some) hl
      split at h
      · rename_i hc; cases h; exact lOpened_d ⟨_, _, _, _, _, _, _, _⟩ hl hc
      · cases h
    · cases h
  · cases h
attribute [go_sem] glOpened
noncomputable def spL3 : Pm.Spec := spL2.one 70 glOpened
@[go_sem] theorem spL3_p (f : FuncId) (xs : List TV) : spL3.p f xs = Pm.Spec.p (spL2.one 70 glOpened) f xs := rfl
@[go_sem] theorem spL3_h (f : FuncId) (ps : List PV) (hl : List PO) : spL3.h f ps hl = Pm.Spec.h (spL2.one 70 glOpened) f ps hl := rfl
@[go_sem] theorem spL3_y (Y : Pm.YS) (f : FuncId) (ps : List PV) (hl : List PO) : spL3.y Y f ps hl = Pm.Spec.y (spL2.one 70 glOpened) Y f ps hl := rfl
@[go_sem] theorem spL3_fz (f : FuncId) : spL3.fz f = Pm.Spec.fz (spL2.one 70 glOpened) f := rfl
@[go_sem] theorem spL3_fr (f : FuncId) : spL3.fr f = Pm.Spec.fr (spL2.one 70 glOpened) f := rfl
@[go_sem] theorem spL3_yf (f : FuncId) : spL3.yf f = Pm.Spec.yf (spL2.one 70 glOpened) f := rfl
@[go_sem] theorem spL3_mu (t : TypeId) : spL3.mu t = Pm.Spec.mu (spL2.one 70 glOpened) t := rfl
@[go_sem] theorem spL3_nf (t : TypeId) : spL3.nf t = Pm.Spec.nf (spL2.one 70 glOpened) t := rfl
theorem spL3_ok : SpecOk Try.prog spL3 := Spec.one_ok glOpened_ok spL2_ok
end Go.Proofs.Ytadkjjnnnkfalaa.Lv

/- Part Lx. -/
namespace Go.Oc.Lv
end Go.Oc.Lv
namespace Go.Proofs.Ytadkjjnnnkfalaa.Lv
end Go.Proofs.Ytadkjjnnnkfalaa.Lv
namespace Go.Proofs.Ytadkjjnnnkfalaa.Lv
open Go.RowKit Go.Pm Go.Oc Go.Oc.Lv
set_option maxRecDepth 100000
set_option linter.unusedVariables false
set_option maxHeartbeats 1000000

theorem lEnds_c (a : Int) (l : List Int) (full : Bool) (hl : (l.length : Int) ≤ 1000000) : PCalls Try.prog 111 [.int .i64 a, .sl (ints l) l.length full] (.tup [.int .i64 (l.foldl min a), .int .i64 (l.foldl max a)]) := by
  refine pcalls_by Try.mixes noSpec_ok (fn := Try.f111) Try.func111 rfl (by kernel_rfl) (by show 2 ≤ _; decide) ?_
  simp (decide := true) (maxSteps := 4000000) only [go_sem, Nat.reduceAdd, Nat.reduceSub, Nat.reduceMul, Nat.reduceDiv, Nat.reduceMod, Nat.reduceLT, Nat.reduceLeDiff, Nat.reduceEqDiff, Nat.reduceBEq, Nat.reduceBNe, Nat.reduceGT, Int.reduceAdd, Int.reduceSub, Int.reduceMul, Int.reduceNeg, Int.reduceLT, Int.reduceLE, Int.reduceEq, Int.reduceNe, Int.reduceBEq, Int.reduceBNe, Int.reduceToNat, Int.reduceGT, Int.reduceGE, ↓reduceIte, decide_true, decide_false, Try.f111]
  refine pwpC_loop (A := { k : Nat // k ≤ l.length }) (fun k => { env := [(12, .t (.int .i64 k.1)), (11, .t (.int .i64 l.length)), (10, .t (.sl (ints l) l.length full)), (4, .t (.int .i64 ((l.take k.1).foldl min a))), (5, .t (.int .i64 ((l.take k.1).foldl max a)))], heap := [] }) (fun k => l.length - k.1) ⟨0, by omega⟩ ?_ (fun k => by rfl) fun ⟨k, hk⟩ => ?_
  · simp (decide := true) (maxSteps := 4000000) only [go_sem, Nat.reduceAdd, Nat.reduceSub, Nat.reduceMul, Nat.reduceDiv, Nat.reduceMod, Nat.reduceLT, Nat.reduceLeDiff, Nat.reduceEqDiff, Nat.reduceBEq, Nat.reduceBNe, Nat.reduceGT, Int.reduceAdd, Int.reduceSub, Int.reduceMul, Int.reduceNeg, Int.reduceLT, Int.reduceLE, Int.reduceEq, Int.reduceNe, Int.reduceBEq, Int.reduceBNe, Int.reduceToNat, Int.reduceGT, Int.reduceGE, ↓reduceIte, decide_true, decide_false]
  · by_cases hlt : (k : Int) < l.length
    · obtain ⟨x, hx⟩ := get_lt hlt
      have hk1 : IntKind.i64.wrap (k + 1) = ((k + 1 : Nat) : Int) := by rw [wrap_in (by omega) (by omega)]; omega
      simp (decide := true) (maxSteps := 4000000) only [go_sem, Nat.reduceAdd, Nat.reduceSub, Nat.reduceMul, Nat.reduceDiv, Nat.reduceMod, Nat.reduceLT, Nat.reduceLeDiff, Nat.reduceEqDiff, Nat.reduceBEq, Nat.reduceBNe, Nat.reduceGT, Int.reduceAdd, Int.reduceSub, Int.reduceMul, Int.reduceNeg, Int.reduceLT, Int.reduceLE, Int.reduceEq, Int.reduceNe, Int.reduceBEq, Int.reduceBNe, Int.reduceToNat, Int.reduceGT, Int.reduceGE, ↓reduceIte, decide_true, decide_false, hlt, ints_at hx]
      refine ⟨⟨k + 1, by omega⟩, ?_⟩
      simp (decide := true) (maxSteps := 4000000) only [go_sem, Nat.reduceAdd, Nat.reduceSub, Nat.reduceMul, Nat.reduceDiv, Nat.reduceMod, Nat.reduceLT, Nat.reduceLeDiff, Nat.reduceEqDiff, Nat.reduceBEq, Nat.reduceBNe, Nat.reduceGT, Int.reduceAdd, Int.reduceSub, Int.reduceMul, Int.reduceNeg, Int.reduceLT, Int.reduceLE, Int.reduceEq, Int.reduceNe, Int.reduceBEq, Int.reduceBNe, Int.reduceToNat, Int.reduceGT, Int.reduceGE, ↓reduceIte, decide_true, decide_false, hk1, take_snoc hx, List.foldl_append]
      omega
    · have hkl : k = l.length := by omega
      subst hkl
      simp (decide := true) (maxSteps := 4000000) only [go_sem, Nat.reduceAdd, Nat.reduceSub, Nat.reduceMul, Nat.reduceDiv, Nat.reduceMod, Nat.reduceLT, Nat.reduceLeDiff, Nat.reduceEqDiff, Nat.reduceBEq, Nat.reduceBNe, Nat.reduceGT, Int.reduceAdd, Int.reduceSub, Int.reduceMul, Int.reduceNeg, Int.reduceLT, Int.reduceLE, Int.reduceEq, Int.reduceNe, Int.reduceBEq, Int.reduceBNe, Int.reduceToNat, Int.reduceGT, Int.reduceGE, ↓reduceIte, decide_true, decide_false, hlt, List.take_length]
def spF : Pm.Spec := { noSpec with fz := fun _ => true }
theorem spF_ok : SpecOk Try.prog spF := ⟨fun f xs r h => (by cases h), fun f xs hl v hl' h => (by cases h), fun Y f xs hl v hl' h => (by cases h)⟩
@[go_sem] theorem spF_p (f : FuncId) (xs : List TV) : spF.p f xs = Pm.Spec.p ({ noSpec with fz := fun _ => true }) f xs := rfl
@[go_sem] theorem spF_h (f : FuncId) (ps : List PV) (hl : List PO) : spF.h f ps hl = Pm.Spec.h ({ noSpec with fz := fun _ => true }) f ps hl := rfl
@[go_sem] theorem spF_y (Y : Pm.YS) (f : FuncId) (ps : List PV) (hl : List PO) : spF.y Y f ps hl = Pm.Spec.y ({ noSpec with fz := fun _ => true }) Y f ps hl := rfl
@[go_sem] theorem spF_fz (f : FuncId) : spF.fz f = Pm.Spec.fz ({ noSpec with fz := fun _ => true }) f := rfl
@[go_sem] theorem spF_fr (f : FuncId) : spF.fr f = Pm.Spec.fr ({ noSpec with fz := fun _ => true }) f := rfl
@[go_sem] theorem spF_yf (f : FuncId) : spF.yf f = Pm.Spec.yf ({ noSpec with fz := fun _ => true }) f := rfl
@[go_sem] theorem spF_mu (t : TypeId) : spF.mu t = Pm.Spec.mu ({ noSpec with fz := fun _ => true }) t := rfl
@[go_sem] theorem spF_nf (t : TypeId) : spF.nf t = Pm.Spec.nf ({ noSpec with fz := fun _ => true }) t := rfl
theorem lZeros_c (v : Vial) (s : TV) (hs : ∃ cs n full, s = .sl cs n full) : PCalls Try.prog 110 [v.t, s] (.fn 127 [] [.cptr v.cs, .cptr [s]]) := by
  refine pcalls_by Try.mixes spF_ok (fn := Try.f110) Try.func110 rfl (by kernel_rfl) (by show 2 ≤ _; decide) ?_
  obtain ⟨cs, n, full, rfl⟩ := hs
  simp (decide := true) (maxSteps := 4000000) only [go_sem, Nat.reduceAdd, Nat.reduceSub, Nat.reduceMul, Nat.reduceDiv, Nat.reduceMod, Nat.reduceLT, Nat.reduceLeDiff, Nat.reduceEqDiff, Nat.reduceBEq, Nat.reduceBNe, Nat.reduceGT, Int.reduceAdd, Int.reduceSub, Int.reduceMul, Int.reduceNeg, Int.reduceLT, Int.reduceLE, Int.reduceEq, Int.reduceNe, Int.reduceBEq, Int.reduceBNe, Int.reduceToNat, Int.reduceGT, Int.reduceGE, ↓reduceIte, decide_true, decide_false, Try.f110, Vial.t, Vial.cs]
end Go.Proofs.Ytadkjjnnnkfalaa.Lv

/- Part Ly. -/
namespace Go.Oc.Lv
end Go.Oc.Lv
namespace Go.Proofs.Ytadkjjnnnkfalaa.Lv
end Go.Proofs.Ytadkjjnnnkfalaa.Lv
namespace Go.Oc.Lv
open Go Go.Pm

theorem fold_le {w z : Int} : ∀ (l : List Mk) (s : Span), s.lo ≤ (l.foldl (inS w z) s).lo ∧ (l.foldl (inS w z) s).hi ≤ s.hi
  | [], s => ⟨Int.le_refl _, Int.le_refl _⟩
  | m :: l, s => by
    have := fold_le (w := w) (z := z) l (inS w z s m)
    simp only [List.foldl_cons]
    have h1 : s.lo ≤ (inS w z s m).lo := by simp only [inS]; omega
    have h2 : (inS w z s m).hi ≤ s.hi := by simp only [inS]; omega
    omega
theorem withinS_take {w z : Int} (l : List Mk) (i : Nat) : (withinS w (l.take i) z).lo ≤ (withinS w l z).lo ∧ (withinS w l z).hi ≤ (withinS w (l.take i) z).hi := by
  have := fold_le (w := w) (z := z) (l.drop i) (withinS w (l.take i) z)
  have e : withinS w l z = (l.drop i).foldl (inS w z) (withinS w (l.take i) z) := by
    unfold withinS; rw [← List.foldl_append, List.take_append_drop]
  rw [e]; exact this
theorem withinS_snoc {w z : Int} {l : List Mk} {i : Nat} {x : Mk} (h : l[i]? = some x) : withinS w (l.take (i + 1)) z = inS w z (withinS w (l.take i) z) x := by
  unfold withinS; rw [take_snoc h, List.foldl_append]; rfl
/-- How many zeros so far can be. -/
def cz (v : Vial) (l : List Mk) (k : Nat) : Nat := (zerosOf v l (range v.z0 k)).length
theorem cz_zero (v : Vial) (l : List Mk) : cz v l 0 = 0 := rfl
theorem cz_out {v : Vial} {l : List Mk} {k : Nat} (h : ¬ (withinS v.wr l (v.z0 + k)).lo ≤ (withinS v.wr l (v.z0 + k)).hi) : cz v l (k + 1) = cz v l k := by
  unfold cz; rw [range_succ, zerosOf_snoc, foundZ, if_neg h, List.append_nil]
theorem cz_in {v : Vial} {l : List Mk} {k : Nat} (h : (withinS v.wr l (v.z0 + k)).lo ≤ (withinS v.wr l (v.z0 + k)).hi) : cz v l (k + 1) = cz v l k + 1 := by
  unfold cz; rw [range_succ, zerosOf_snoc, foundZ, if_pos h]; simp
theorem range_take (a : Int) (n k : Nat) (h : k ≤ n) : ∃ r, range a n = range a k ++ r := by
  refine ⟨(range a n).drop k, ?_⟩
  have e : range a k = (range a n).take k := by
    unfold range; rw [← List.map_take, List.take_range, Nat.min_eq_left h]
  rw [e, List.take_append_drop]
theorem zerosOf_append (v : Vial) (l : List Mk) (a b : List Int) : zerosOf v l (a ++ b) = zerosOf v l a ++ zerosOf v l b := by
  unfold zerosOf; rw [List.filterMap_append]
theorem zerosOf_at {v : Vial} {l : List Mk} {k : Nat} (h : (withinS v.wr l (v.z0 + k)).lo ≤ (withinS v.wr l (v.z0 + k)).hi) (hk : k < (v.z1 - v.z0 + 1).toNat) :
    (zerosOf v l (allZ v))[cz v l k]? = some (v.z0 + k, withinS v.wr l (v.z0 + k)) := by
  obtain ⟨r, hr⟩ := range_take v.z0 (v.z1 - v.z0 + 1).toNat (k + 1) (by omega)
  unfold allZ
  rw [hr, range_succ, zerosOf_append, zerosOf_snoc, foundZ, if_pos h, List.append_assoc]
  unfold cz
  simp
theorem cz_le {v : Vial} {l : List Mk} {k : Nat} (hk : k ≤ (v.z1 - v.z0 + 1).toNat) : cz v l k ≤ (zerosOf v l (allZ v)).length := by
  obtain ⟨r, hr⟩ := range_take v.z0 (v.z1 - v.z0 + 1).toNat k hk
  unfold allZ cz
  rw [hr, zerosOf_append]; simp
theorem cz_all (v : Vial) (l : List Mk) : cz v l (v.z1 - v.z0 + 1).toNat = (zerosOf v l (allZ v)).length := rfl
/-- What is known of the tilt behind so many readings. -/
def pS (w z : Int) (l : List Mk) (i : Nat) : Span := if i = 0 then ⟨0, 0⟩ else withinS w (l.take i) z
theorem pS_one {w z : Int} {l : List Mk} {x : Mk} (hw : 0 ≤ w ∧ w ≤ 8) (hz : 0 ≤ z ∧ z ≤ 400) (hx : 0 ≤ x.at' ∧ x.at' ≤ 400) (h : l[0]? = some x) : withinS w (l.take 1) z = ⟨outM x z - w, outM x z + w⟩ := by
  rw [withinS_snoc h]
  simp only [List.take_zero, withinS, List.foldl_nil, inS, Span.mk.injEq]
  simp only [outM]
  split <;> omega
end Go.Oc.Lv

/- Part Lz. -/
namespace Go.Oc.Lv
end Go.Oc.Lv
namespace Go.Proofs.Ytadkjjnnnkfalaa.Lv
end Go.Proofs.Ytadkjjnnnkfalaa.Lv
namespace Go.Proofs.Ytadkjjnnnkfalaa.Lv
open Go.RowKit Go.Pm Go.Oc Go.Oc.Lv
set_option maxRecDepth 100000
set_option linter.unusedVariables false
set_option maxHeartbeats 1000000

def zs (v : Vial) (l : List Mk) : List (List TV) := (zerosOf v l (allZ v)).map fun y => [.int .i64 y.1, y.2.t]
noncomputable def mth_boundsL := PLift.up (mth_of (P := Try.prog) (t := 220) (f := 152) (l := nameAt Try.f127 0) rfl (by kernel_rfl))
theorem mth_bounds : type_of% mth_boundsL.down := mth_boundsL.down
attribute [go_sem] mth_bounds
theorem zs_at {v : Vial} {l : List Mk} {k : Nat} (h : (withinS v.wr l (v.z0 + k)).lo ≤ (withinS v.wr l (v.z0 + k)).hi) (hk : k < (v.z1 - v.z0 + 1).toNat) :
    (zs v l)[cz v l k]? = some [.int .i64 (v.z0 + k), .agg [.int .i64 (withinS v.wr l (v.z0 + k)).lo, .int .i64 (withinS v.wr l (v.z0 + k)).hi]] := by
  unfold zs; rw [List.getElem?_map, zerosOf_at h hk]; rfl
theorem lZeros1_c (v : Vial) (l : List Mk) (full : Bool) (h1 : 1 ≤ l.length) (hv : v.ok = true) (hm : mksOk l = true) (hl : l.length ≤ 100) :
    Iter Try.prog 127 [] [.cptr v.cs, .cptr [.sl (l.flatMap Mk.als) l.length full]] (zs v l) := by
  refine iter_by Try.mixes spL3_ok (fn := Try.f127) Try.func127 rfl (by kernel_rfl) rfl (by show 3 ≤ _; decide) ?_
  intro y m stop hm1 hm2 hm3
  have hv' := Vial.ok_iff.1 hv
  have hzl : (zs v l).length = (zerosOf v l (allZ v)).length := by simp [zs]
  simp (decide := true) (maxSteps := 4000000) only [go_sem, Nat.reduceAdd, Nat.reduceSub, Nat.reduceMul, Nat.reduceDiv, Nat.reduceMod, Nat.reduceLT, Nat.reduceLeDiff, Nat.reduceEqDiff, Nat.reduceBEq, Nat.reduceBNe, Nat.reduceGT, Int.reduceAdd, Int.reduceSub, Int.reduceMul, Int.reduceNeg, Int.reduceLT, Int.reduceLE, Int.reduceEq, Int.reduceNe, Int.reduceBEq, Int.reduceBNe, Int.reduceToNat, Int.reduceGT, Int.reduceGE, ↓reduceIte, decide_true, decide_false, Try.f127, Vial.cs]
  refine pwpC_loop (A := { k : Nat // k ≤ (v.z1 - v.z0 + 1).toNat ∧ (stop = true → cz v l k < m) }) (fun k => { env := [(4, .t (.int .i64 (v.z0 + k.1))), (0, .yld y), (1, .t (.cptr v.cs)), (2, .t (.cptr [.sl (l.flatMap Mk.als) l.length full]))], heap := [.cnt (cz v l k.1)] }) (fun k => (v.z1 - v.z0 + 1).toNat - k.1) ⟨0, by omega, fun h => by rw [cz_zero]; exact hm3 h⟩ ?_ (fun k => by rfl) fun ⟨k, hk, hst⟩ => ?_
  · simp (decide := true) (maxSteps := 4000000) only [go_sem, Nat.reduceAdd, Nat.reduceSub, Nat.reduceMul, Nat.reduceDiv, Nat.reduceMod, Nat.reduceLT, Nat.reduceLeDiff, Nat.reduceEqDiff, Nat.reduceBEq, Nat.reduceBNe, Nat.reduceGT, Int.reduceAdd, Int.reduceSub, Int.reduceMul, Int.reduceNeg, Int.reduceLT, Int.reduceLE, Int.reduceEq, Int.reduceNe, Int.reduceBEq, Int.reduceBNe, Int.reduceToNat, Int.reduceGT, Int.reduceGE, ↓reduceIte, decide_true, decide_false, Vial.cs, cz_zero]
    omega
  · by_cases hlt : v.z0 + k ≤ v.z1
    · have hz : 0 ≤ v.z0 + (k : Int) ∧ v.z0 + (k : Int) ≤ 400 := by omega
      have hw : 0 ≤ v.wr ∧ v.wr ≤ 8 := hv'.2.2.2.2
      have hkN : k < (v.z1 - v.z0 + 1).toNat := by omega
      have hz1 : IntKind.i64.wrap (v.z0 + k + 1) = v.z0 + ((k + 1 : Nat) : Int) := by rw [wrap_in (by omega) (by omega)]; omega
      simp (decide := true) (maxSteps := 4000000) only [go_sem, Nat.reduceAdd, Nat.reduceSub, Nat.reduceMul, Nat.reduceDiv, Nat.reduceMod, Nat.reduceLT, Nat.reduceLeDiff, Nat.reduceEqDiff, Nat.reduceBEq, Nat.reduceBNe, Nat.reduceGT, Int.reduceAdd, Int.reduceSub, Int.reduceMul, Int.reduceNeg, Int.reduceLT, Int.reduceLE, Int.reduceEq, Int.reduceNe, Int.reduceBEq, Int.reduceBNe, Int.reduceToNat, Int.reduceGT, Int.reduceGE, ↓reduceIte, decide_true, decide_false, hlt, Vial.cs]
      refine pwpC_loop (A := { i : Nat // i ≤ l.length ∧ (0 < i → (pS v.wr (v.z0 + k) l i).lo ≤ (pS v.wr (v.z0 + k) l i).hi) }) (fun i => { env := [(23, .t (.int .i64 i.1)), (22, .t (.int .i64 l.length)), (21, .t (.sl (l.flatMap Mk.als) l.length full)), (5, .ptr 1 0), (4, .t (.int .i64 (v.z0 + k))), (0, .yld y), (1, .t (.cptr v.cs)), (2, .t (.cptr [.sl (l.flatMap Mk.als) l.length full]))], heap := [.cnt (cz v l k), .box [.t (.int .i64 (pS v.wr (v.z0 + k) l i.1).lo), .t (.int .i64 (pS v.wr (v.z0 + k) l i.1).hi)]] }) (fun i => l.length - i.1) ⟨0, by omega, by omega⟩ ?_ (fun _ => by rfl) fun ⟨i, hi, hle⟩ => ?_
      · simp (decide := true) (maxSteps := 4000000) only [go_sem, Nat.reduceAdd, Nat.reduceSub, Nat.reduceMul, Nat.reduceDiv, Nat.reduceMod, Nat.reduceLT, Nat.reduceLeDiff, Nat.reduceEqDiff, Nat.reduceBEq, Nat.reduceBNe, Nat.reduceGT, Int.reduceAdd, Int.reduceSub, Int.reduceMul, Int.reduceNeg, Int.reduceLT, Int.reduceLE, Int.reduceEq, Int.reduceNe, Int.reduceBEq, Int.reduceBNe, Int.reduceToNat, Int.reduceGT, Int.reduceGE, ↓reduceIte, decide_true, decide_false, Vial.cs, pS]
      · by_cases hil : (i : Int) < l.length
        · obtain ⟨x, hx⟩ := get_lt hil
          have hd := flat_at Mk.als (n := 1) (fun _ => rfl) hx
          have hxm : inB x.at' 0 400 = true := List.all_eq_true.1 hm x (List.mem_of_getElem? hx)
          have hxm' := inB_iff.1 hxm
          have hi1 : IntKind.i64.wrap (i + 1) = ((i + 1 : Nat) : Int) := by rw [wrap_in (by omega) (by omega)]; omega
          have hn1 : pS v.wr (v.z0 + k) l (i + 1) = withinS v.wr (l.take (i + 1)) (v.z0 + k) := by unfold pS; rw [if_neg (by omega)]
          have htk := withinS_take (w := v.wr) (z := v.z0 + k) l (i + 1)
          rcases Nat.eq_zero_or_pos i with h0 | h0
          · subst h0
            have hw1 := pS_one hw hz hxm' hx
            rw [Nat.zero_add] at hn1 htk
            rw [hw1] at hn1 htk
            simp only at htk
            obtain ⟨a, tu⟩ := x
            have hgt : ∀ n : Int, ¬ n - v.wr > n + v.wr := fun n => by omega
            have hd1 : l.length - 1 < l.length := by omega
            cases tu <;> simp only [outM, if_true, if_false, Bool.false_eq_true] at hn1 <;> simp (decide := true) (maxSteps := 4000000) only [go_sem, Nat.reduceAdd, Nat.reduceSub, Nat.reduceMul, Nat.reduceDiv, Nat.reduceMod, Nat.reduceLT, Nat.reduceLeDiff, Nat.reduceEqDiff, Nat.reduceBEq, Nat.reduceBNe, Nat.reduceGT, Int.reduceAdd, Int.reduceSub, Int.reduceMul, Int.reduceNeg, Int.reduceLT, Int.reduceLE, Int.reduceEq, Int.reduceNe, Int.reduceBEq, Int.reduceBNe, Int.reduceToNat, Int.reduceGT, Int.reduceGE, ↓reduceIte, decide_true, decide_false, hil, hd, Mk.als, Mk.al, Vial.cs, hxm, hz, hw, hgt]
            all_goals refine ⟨⟨1, by omega, fun _ => ?_⟩, ?_⟩
            all_goals first | (rw [hn1]; simp only; omega) | (simp (decide := true) (maxSteps := 4000000) only [go_sem, Nat.reduceAdd, Nat.reduceSub, Nat.reduceMul, Nat.reduceDiv, Nat.reduceMod, Nat.reduceLT, Nat.reduceLeDiff, Nat.reduceEqDiff, Nat.reduceBEq, Nat.reduceBNe, Nat.reduceGT, Int.reduceAdd, Int.reduceSub, Int.reduceMul, Int.reduceNeg, Int.reduceLT, Int.reduceLE, Int.reduceEq, Int.reduceNe, Int.reduceBEq, Int.reduceBNe, Int.reduceToNat, Int.reduceGT, Int.reduceGE, ↓reduceIte, decide_true, decide_false, hn1, hd1])
          · have hi0 : (i : Int) > 0 := by omega
            have hs := withinS_snoc (w := v.wr) (z := v.z0 + k) hx
            have hpi : pS v.wr (v.z0 + k) l i = withinS v.wr (l.take i) (v.z0 + k) := by unfold pS; rw [if_neg (by omega)]
            rw [hs] at hn1 htk
            have hd1 : l.length - (i + 1) < l.length - i := by omega
            by_cases hgt : (inS v.wr (v.z0 + k) (withinS v.wr (l.take i) (v.z0 + k)) x).lo > (inS v.wr (v.z0 + k) (withinS v.wr (l.take i) (v.z0 + k)) x).hi
            · have hcz : cz v l (k + 1) = cz v l k := cz_out (by omega)
              obtain ⟨a, tu⟩ := x
              cases tu <;> simp only [inS, outM, if_true, if_false, Bool.false_eq_true] at hgt <;> simp (decide := true) (maxSteps := 4000000) only [go_sem, Nat.reduceAdd, Nat.reduceSub, Nat.reduceMul, Nat.reduceDiv, Nat.reduceMod, Nat.reduceLT, Nat.reduceLeDiff, Nat.reduceEqDiff, Nat.reduceBEq, Nat.reduceBNe, Nat.reduceGT, Int.reduceAdd, Int.reduceSub, Int.reduceMul, Int.reduceNeg, Int.reduceLT, Int.reduceLE, Int.reduceEq, Int.reduceNe, Int.reduceBEq, Int.reduceBNe, Int.reduceToNat, Int.reduceGT, Int.reduceGE, ↓reduceIte, decide_true, decide_false, hil, hi0, hd, Mk.als, Mk.al, Vial.cs, hxm, hz, hw, hpi, hgt]
              all_goals refine ⟨⟨k + 1, by omega, fun h => by rw [hcz]; exact hst h⟩, ?_⟩
              all_goals simp (decide := true) (maxSteps := 4000000) only [go_sem, Nat.reduceAdd, Nat.reduceSub, Nat.reduceMul, Nat.reduceDiv, Nat.reduceMod, Nat.reduceLT, Nat.reduceLeDiff, Nat.reduceEqDiff, Nat.reduceBEq, Nat.reduceBNe, Nat.reduceGT, Int.reduceAdd, Int.reduceSub, Int.reduceMul, Int.reduceNeg, Int.reduceLT, Int.reduceLE, Int.reduceEq, Int.reduceNe, Int.reduceBEq, Int.reduceBNe, Int.reduceToNat, Int.reduceGT, Int.reduceGE, ↓reduceIte, decide_true, decide_false, hz1, hcz, Vial.cs]
              all_goals omega
            · obtain ⟨a, tu⟩ := x
              have hle' : (inS v.wr (v.z0 + k) (withinS v.wr (l.take i) (v.z0 + k)) ⟨a, tu⟩).lo ≤ (inS v.wr (v.z0 + k) (withinS v.wr (l.take i) (v.z0 + k)) ⟨a, tu⟩).hi := by omega
              cases tu <;> simp only [inS, outM, if_true, if_false, Bool.false_eq_true] at hgt <;> simp (decide := true) (maxSteps := 4000000) only [go_sem, Nat.reduceAdd, Nat.reduceSub, Nat.reduceMul, Nat.reduceDiv, Nat.reduceMod, Nat.reduceLT, Nat.reduceLeDiff, Nat.reduceEqDiff, Nat.reduceBEq, Nat.reduceBNe, Nat.reduceGT, Int.reduceAdd, Int.reduceSub, Int.reduceMul, Int.reduceNeg, Int.reduceLT, Int.reduceLE, Int.reduceEq, Int.reduceNe, Int.reduceBEq, Int.reduceBNe, Int.reduceToNat, Int.reduceGT, Int.reduceGE, ↓reduceIte, decide_true, decide_false, hil, hi0, hd, Mk.als, Mk.al, Vial.cs, hxm, hz, hw, hpi, hgt]
              all_goals refine ⟨⟨i + 1, by omega, fun _ => by rw [hn1]; exact hle'⟩, ?_⟩
              all_goals simp (decide := true) (maxSteps := 4000000) only [go_sem, Nat.reduceAdd, Nat.reduceSub, Nat.reduceMul, Nat.reduceDiv, Nat.reduceMod, Nat.reduceLT, Nat.reduceLeDiff, Nat.reduceEqDiff, Nat.reduceBEq, Nat.reduceBNe, Nat.reduceGT, Int.reduceAdd, Int.reduceSub, Int.reduceMul, Int.reduceNeg, Int.reduceLT, Int.reduceLE, Int.reduceEq, Int.reduceNe, Int.reduceBEq, Int.reduceBNe, Int.reduceToNat, Int.reduceGT, Int.reduceGE, ↓reduceIte, decide_true, decide_false, hi1, hn1, inS, outM, hd1, Vial.cs]
        · have hil' : i = l.length := by omega
          subst hil'
          have hpl : pS v.wr (v.z0 + k) l l.length = withinS v.wr l (v.z0 + k) := by unfold pS; rw [if_neg (by omega), List.take_length]
          have hin := hle (by omega)
          rw [hpl] at hin
          have hcz := cz_in hin
          have hat := zs_at hin hkN
          have hc1 := cz_le (v := v) (l := l) (k := k + 1) (by omega)
          have hcm : cz v l k < m := by
            cases stop with
            | true => exact hst rfl
            | false => rw [hm2 rfl, hzl]; omega
          by_cases hs : (stop && cz v l k + 1 == m) = true
          · have hs' := hs
            simp only [Bool.and_eq_true, beq_iff_eq] at hs'
            simp (decide := true) (maxSteps := 4000000) only [go_sem, Nat.reduceAdd, Nat.reduceSub, Nat.reduceMul, Nat.reduceDiv, Nat.reduceMod, Nat.reduceLT, Nat.reduceLeDiff, Nat.reduceEqDiff, Nat.reduceBEq, Nat.reduceBNe, Nat.reduceGT, Int.reduceAdd, Int.reduceSub, Int.reduceMul, Int.reduceNeg, Int.reduceLT, Int.reduceLE, Int.reduceEq, Int.reduceNe, Int.reduceBEq, Int.reduceBNe, Int.reduceToNat, Int.reduceGT, Int.reduceGE, ↓reduceIte, decide_true, decide_false, hil, hpl, hat, hcm, hs, hs'.1, hs'.2, Vial.cs]
          · have hs0 : (stop && cz v l k + 1 == m) = false := by simpa using hs
            simp (decide := true) (maxSteps := 4000000) only [go_sem, Nat.reduceAdd, Nat.reduceSub, Nat.reduceMul, Nat.reduceDiv, Nat.reduceMod, Nat.reduceLT, Nat.reduceLeDiff, Nat.reduceEqDiff, Nat.reduceBEq, Nat.reduceBNe, Nat.reduceGT, Int.reduceAdd, Int.reduceSub, Int.reduceMul, Int.reduceNeg, Int.reduceLT, Int.reduceLE, Int.reduceEq, Int.reduceNe, Int.reduceBEq, Int.reduceBNe, Int.reduceToNat, Int.reduceGT, Int.reduceGE, ↓reduceIte, decide_true, decide_false, hil, hpl, hat, hcm, hs0, Vial.cs]
            refine ⟨⟨k + 1, by omega, fun h => ?_⟩, ?_⟩
            · rw [hcz]; subst h; simp at hs0; omega
            · simp (decide := true) (maxSteps := 4000000) only [go_sem, Nat.reduceAdd, Nat.reduceSub, Nat.reduceMul, Nat.reduceDiv, Nat.reduceMod, Nat.reduceLT, Nat.reduceLeDiff, Nat.reduceEqDiff, Nat.reduceBEq, Nat.reduceBNe, Nat.reduceGT, Int.reduceAdd, Int.reduceSub, Int.reduceMul, Int.reduceNeg, Int.reduceLT, Int.reduceLE, Int.reduceEq, Int.reduceNe, Int.reduceBEq, Int.reduceBNe, Int.reduceToNat, Int.reduceGT, Int.reduceGE, ↓reduceIte, decide_true, decide_false, hz1, hcz, Vial.cs]
              omega
    · simp (decide := true) (maxSteps := 4000000) only [go_sem, Nat.reduceAdd, Nat.reduceSub, Nat.reduceMul, Nat.reduceDiv, Nat.reduceMod, Nat.reduceLT, Nat.reduceLeDiff, Nat.reduceEqDiff, Nat.reduceBEq, Nat.reduceBNe, Nat.reduceGT, Int.reduceAdd, Int.reduceSub, Int.reduceMul, Int.reduceNeg, Int.reduceLT, Int.reduceLE, Int.reduceEq, Int.reduceNe, Int.reduceBEq, Int.reduceBNe, Int.reduceToNat, Int.reduceGT, Int.reduceGE, ↓reduceIte, decide_true, decide_false, hlt, Vial.cs]
      have hkN : k = (v.z1 - v.z0 + 1).toNat := by omega
      subst hkN
      cases stop with
      | false => rw [hm2 rfl, hzl, cz_all]
      | true => have := hst rfl; rw [cz_all] at this; omega
end Go.Proofs.Ytadkjjnnnkfalaa.Lv

/- Part La. -/
namespace Go.Oc.Lv
end Go.Oc.Lv
namespace Go.Proofs.Ytadkjjnnnkfalaa.Lv
end Go.Proofs.Ytadkjjnnnkfalaa.Lv
namespace Go.Proofs.Ytadkjjnnnkfalaa.Lv
open Go.RowKit Go.Pm Go.Oc Go.Oc.Lv
set_option maxRecDepth 100000
set_option linter.unusedVariables false
set_option maxHeartbeats 1000000

theorem lEnds1_c (a b : Int) (full : Bool) : PCalls Try.prog 111 [.int .i64 a, .sl [.int .i64 b] 1 full] (.tup [.int .i64 (min a b), .int .i64 (max a b)]) := lEnds_c a [b] full (by simp)
noncomputable def glEnds : List TV → Option TV
  | [.int .i64 a, .sl [.int .i64 b] 1 full] => some (.tup [.int .i64 (min a b), .int .i64 (max a b)])
  | _ => none
theorem glEnds_ok : ∀ xs r, glEnds xs = some r → PCalls Try.prog 111 xs r := by
  intro xs r h
  unfold glEnds at h
  split at h
  · cases h; exact lEnds1_c _ _ _
  · cases h
attribute [go_sem] glEnds
noncomputable def glZeros : List TV → Option TV
  | [.agg [.int .i64 m, .int .i64 a, .int .i64 b, .int .i64 c, .int .i64 d, .int .i64 e, .int .i64 f, .int .i64 g], .sl cs n full] => some (.fn 127 [] [.cptr (Vial.cs ⟨m, a, b, c, d, e, f, g⟩), .cptr [.sl cs n full]])
  | _ => none
theorem glZeros_ok : ∀ xs r, glZeros xs = some r → PCalls Try.prog 110 xs r := by
  intro xs r h
  unfold glZeros at h
  split at h
  · cases h; exact lZeros_c ⟨_, _, _, _, _, _, _, _⟩ _ ⟨_, _, _, rfl⟩
  · cases h
attribute [go_sem] glZeros
noncomputable def spL4 : Pm.Spec := (spL3.one 111 glEnds).one 110 glZeros
@[go_sem] theorem spL4_p (f : FuncId) (xs : List TV) : spL4.p f xs = Pm.Spec.p ((spL3.one 111 glEnds).one 110 glZeros) f xs := rfl
@[go_sem] theorem spL4_h (f : FuncId) (ps : List PV) (hl : List PO) : spL4.h f ps hl = Pm.Spec.h ((spL3.one 111 glEnds).one 110 glZeros) f ps hl := rfl
@[go_sem] theorem spL4_y (Y : Pm.YS) (f : FuncId) (ps : List PV) (hl : List PO) : spL4.y Y f ps hl = Pm.Spec.y ((spL3.one 111 glEnds).one 110 glZeros) Y f ps hl := rfl
@[go_sem] theorem spL4_fz (f : FuncId) : spL4.fz f = Pm.Spec.fz ((spL3.one 111 glEnds).one 110 glZeros) f := rfl
@[go_sem] theorem spL4_fr (f : FuncId) : spL4.fr f = Pm.Spec.fr ((spL3.one 111 glEnds).one 110 glZeros) f := rfl
@[go_sem] theorem spL4_yf (f : FuncId) : spL4.yf f = Pm.Spec.yf ((spL3.one 111 glEnds).one 110 glZeros) f := rfl
@[go_sem] theorem spL4_mu (t : TypeId) : spL4.mu t = Pm.Spec.mu ((spL3.one 111 glEnds).one 110 glZeros) t := rfl
@[go_sem] theorem spL4_nf (t : TypeId) : spL4.nf t = Pm.Spec.nf ((spL3.one 111 glEnds).one 110 glZeros) t := rfl
theorem spL4_ok : SpecOk Try.prog spL4 := Spec.one_ok glZeros_ok (Spec.one_ok glEnds_ok spL3_ok)

/-- What is known of the tilt behind so many zeros that can be. -/
def tk (v : Vial) (l : List Mk) (i : Nat) : TZ := tiltsOf v ((zerosOf v l (allZ v)).take i)
theorem tk_succ {v : Vial} {l : List Mk} {i : Nat} {y : Int × Span} (h : (zerosOf v l (allZ v))[i]? = some y) : tk v l (i + 1) = tiltStep v (tk v l i) y := by
  unfold tk tiltsOf; rw [take_snoc h, List.foldl_append]; rfl
theorem zerosOf_mem {v : Vial} {l : List Mk} {y : Int × Span} (h : y ∈ zerosOf v l (allZ v)) : y.2 = withinS v.wr l y.1 ∧ y.2.lo ≤ y.2.hi ∧ v.z0 ≤ y.1 ∧ y.1 ≤ v.z1 := by
  unfold zerosOf allZ range at h
  simp only [List.mem_filterMap, List.mem_map, List.mem_range] at h
  obtain ⟨z, ⟨k, hk, rfl⟩, h⟩ := h
  split at h
  · rename_i hle; cases h; exact ⟨rfl, hle, by simp only; omega, by simp only; omega⟩
  · cases h
theorem lTilts_c (v : Vial) (l : List Mk) (full : Bool) (h1 : 1 ≤ l.length) (hv : v.ok = true) (hm : mksOk l = true) (hl : l.length ≤ 100) :
    PCalls Try.prog 72 [v.t, .sl (l.flatMap Mk.als) l.length full] (tilts v l).t := by
  have hv' := Vial.ok_iff.1 hv
  refine pcalls_by Try.mixes spL4_ok (fn := Try.f72) Try.func72 rfl (by kernel_rfl) (by show 2 ≤ _; decide) ?_
  simp (decide := true) (maxSteps := 4000000) only [go_sem, Nat.reduceAdd, Nat.reduceSub, Nat.reduceMul, Nat.reduceDiv, Nat.reduceMod, Nat.reduceLT, Nat.reduceLeDiff, Nat.reduceEqDiff, Nat.reduceBEq, Nat.reduceBNe, Nat.reduceGT, Int.reduceAdd, Int.reduceSub, Int.reduceMul, Int.reduceNeg, Int.reduceLT, Int.reduceLE, Int.reduceEq, Int.reduceNe, Int.reduceBEq, Int.reduceBNe, Int.reduceToNat, Int.reduceGT, Int.reduceGE, ↓reduceIte, decide_true, decide_false, Try.f72, Vial.t, Vial.cs]
  refine pwpC_range rfl 127 [] [.cptr v.cs, .cptr [.sl (l.flatMap Mk.als) l.length full]] (zs v l) [(15, .t (.fn 127 [] [.cptr v.cs, .cptr [.sl (l.flatMap Mk.als) l.length full]])), (2, .ptr 0 0), (4, .ptr 1 0), (5, .ptr 2 0), (6, .ptr 3 0)]
    (fun i => [.box (v.cs.map .t), .box ((tk v l i).tilt.cs.map .t), .box ((tk v l i).zero.cs.map .t), .box [.t (.bool (tk v l i).is)]]) 4 ?_ (by rfl) (by rfl) ?_ (lZeros1_c v l full h1 hv hm hl) ?_ (fun i => by simp) (fun i => rfl) (fun i x hx => ?_) ?_
  · simp (decide := true) (maxSteps := 4000000) only [go_sem, Nat.reduceAdd, Nat.reduceSub, Nat.reduceMul, Nat.reduceDiv, Nat.reduceMod, Nat.reduceLT, Nat.reduceLeDiff, Nat.reduceEqDiff, Nat.reduceBEq, Nat.reduceBNe, Nat.reduceGT, Int.reduceAdd, Int.reduceSub, Int.reduceMul, Int.reduceNeg, Int.reduceLT, Int.reduceLE, Int.reduceEq, Int.reduceNe, Int.reduceBEq, Int.reduceBNe, Int.reduceToNat, Int.reduceGT, Int.reduceGE, ↓reduceIte, decide_true, decide_false, Vial.cs, Span.cs, tk, tiltsOf]
  · simp (decide := true) (maxSteps := 4000000) only [go_sem, Nat.reduceAdd, Nat.reduceSub, Nat.reduceMul, Nat.reduceDiv, Nat.reduceMod, Nat.reduceLT, Nat.reduceLeDiff, Nat.reduceEqDiff, Nat.reduceBEq, Nat.reduceBNe, Nat.reduceGT, Int.reduceAdd, Int.reduceSub, Int.reduceMul, Int.reduceNeg, Int.reduceLT, Int.reduceLE, Int.reduceEq, Int.reduceNe, Int.reduceBEq, Int.reduceBNe, Int.reduceToNat, Int.reduceGT, Int.reduceGE, ↓reduceIte, decide_true, decide_false, Vial.cs]
  · intro x hx
    unfold zs at hx
    obtain ⟨y, _, rfl⟩ := List.mem_map.1 hx
    rfl
  · unfold zs at hx
    simp only [List.getElem?_map, Option.map_eq_some_iff] at hx
    obtain ⟨y, hy, rfl⟩ := hx
    obtain ⟨hy1, hy2, hy3, hy4⟩ := zerosOf_mem (List.mem_of_getElem? hy)
    have hb := withinS_bound (w := v.wr) (z := y.1) (by omega) (by omega) (l := l) (s := ⟨-10000, 10000⟩) hm (by simp)
    have hwi : withinS v.wr l y.1 = l.foldl (inS v.wr y.1) ⟨-10000, 10000⟩ := rfl
    rw [← hwi, ← hy1] at hb
    have p1 := mulB (a := y.2.lo) (b := v.v0) (by omega) (by omega)
    have p2 := mulB (a := y.2.lo) (b := v.v1) (by omega) (by omega)
    have p3 := mulB (a := y.2.hi) (b := v.v0) (by omega) (by omega)
    have p4 := mulB (a := y.2.hi) (b := v.v1) (by omega) (by omega)
    have w1 : IntKind.i64.wrap (v.v0 * y.2.lo) = y.2.lo * v.v0 := by rw [Int.mul_comm]; exact wrap_in (by omega) (by omega)
    have w2 : IntKind.i64.wrap (v.v1 * y.2.lo) = y.2.lo * v.v1 := by rw [Int.mul_comm]; exact wrap_in (by omega) (by omega)
    have w3 : IntKind.i64.wrap (v.v0 * y.2.hi) = y.2.hi * v.v0 := by rw [Int.mul_comm]; exact wrap_in (by omega) (by omega)
    have w4 : IntKind.i64.wrap (v.v1 * y.2.hi) = y.2.hi * v.v1 := by rw [Int.mul_comm]; exact wrap_in (by omega) (by omega)
    have hlm := least_most hv hy2
    unfold leastP mostP at hlm
    have hs := tk_succ hy
    cases his : (tk v l i).is
    · simp (decide := true) (maxSteps := 4000000) only [go_sem, Nat.reduceAdd, Nat.reduceSub, Nat.reduceMul, Nat.reduceDiv, Nat.reduceMod, Nat.reduceLT, Nat.reduceLeDiff, Nat.reduceEqDiff, Nat.reduceBEq, Nat.reduceBNe, Nat.reduceGT, Int.reduceAdd, Int.reduceSub, Int.reduceMul, Int.reduceNeg, Int.reduceLT, Int.reduceLE, Int.reduceEq, Int.reduceNe, Int.reduceBEq, Int.reduceBNe, Int.reduceToNat, Int.reduceGT, Int.reduceGE, ↓reduceIte, decide_true, decide_false, Vial.cs, Span.cs, Span.t, w1, w2, w3, w4, his, hs, tiltStep, leastP, mostP]
      omega
    · simp (decide := true) (maxSteps := 4000000) only [go_sem, Nat.reduceAdd, Nat.reduceSub, Nat.reduceMul, Nat.reduceDiv, Nat.reduceMod, Nat.reduceLT, Nat.reduceLeDiff, Nat.reduceEqDiff, Nat.reduceBEq, Nat.reduceBNe, Nat.reduceGT, Int.reduceAdd, Int.reduceSub, Int.reduceMul, Int.reduceNeg, Int.reduceLT, Int.reduceLE, Int.reduceEq, Int.reduceNe, Int.reduceBEq, Int.reduceBNe, Int.reduceToNat, Int.reduceGT, Int.reduceGE, ↓reduceIte, decide_true, decide_false, Vial.cs, Span.cs, Span.t, w1, w2, w3, w4, his, hs, tiltStep, leastP, mostP]
  · have he : tk v l (zs v l).length = tilts v l := by unfold tk zs tilts; rw [List.length_map, List.take_length]
    simp (decide := true) (maxSteps := 4000000) only [go_sem, Nat.reduceAdd, Nat.reduceSub, Nat.reduceMul, Nat.reduceDiv, Nat.reduceMod, Nat.reduceLT, Nat.reduceLeDiff, Nat.reduceEqDiff, Nat.reduceBEq, Nat.reduceBNe, Nat.reduceGT, Int.reduceAdd, Int.reduceSub, Int.reduceMul, Int.reduceNeg, Int.reduceLT, Int.reduceLE, Int.reduceEq, Int.reduceNe, Int.reduceBEq, Int.reduceBNe, Int.reduceToNat, Int.reduceGT, Int.reduceGE, ↓reduceIte, decide_true, decide_false, he, Vial.cs, Span.cs, TZ.t, Span.t]
noncomputable def glTilts : List TV → Option TV
  | [.agg [.int .i64 m, .int .i64 a, .int .i64 b, .int .i64 c, .int .i64 d, .int .i64 e, .int .i64 f, .int .i64 g], s] => match rowL unAls s with
    | some l => if 1 ≤ l.length ∧ Vial.ok ⟨m, a, b, c, d, e, f, g⟩ = true ∧ mksOk l = true ∧ l.length ≤ 100 then some ((tilts ⟨m, a, b, c, d, e, f, g⟩ l).t) else none
    | none => none
  | _ => none
theorem glTilts_ok : ∀ xs r, glTilts xs = some r → PCalls Try.prog 72 xs r := by
  intro xs r h
  unfold glTilts at h
  split at h
  · split at h
    · rename_i l hl
      have hl := rowL_some (un := unAls) (by first | rfl | exact unAls_nil) (@unAls_some) hl
      split at h
      · rename_i hc; cases h; exact (by obtain ⟨h0, h1, h2, h3⟩ := hc; obtain ⟨full, rfl⟩ := hl.ne h0; exact lTilts_c ⟨_, _, _, _, _, _, _, _⟩ _ _ h0 h1 h2 h3)
      · cases h
    · cases h
  · cases h
attribute [go_sem] glTilts
noncomputable def spL5 : Pm.Spec := spL4.one 72 glTilts
@[go_sem] theorem spL5_p (f : FuncId) (xs : List TV) : spL5.p f xs = Pm.Spec.p (spL4.one 72 glTilts) f xs := rfl
@[go_sem] theorem spL5_h (f : FuncId) (ps : List PV) (hl : List PO) : spL5.h f ps hl = Pm.Spec.h (spL4.one 72 glTilts) f ps hl := rfl
@[go_sem] theorem spL5_y (Y : Pm.YS) (f : FuncId) (ps : List PV) (hl : List PO) : spL5.y Y f ps hl = Pm.Spec.y (spL4.one 72 glTilts) Y f ps hl := rfl
@[go_sem] theorem spL5_fz (f : FuncId) : spL5.fz f = Pm.Spec.fz (spL4.one 72 glTilts) f := rfl
@[go_sem] theorem spL5_fr (f : FuncId) : spL5.fr f = Pm.Spec.fr (spL4.one 72 glTilts) f := rfl
@[go_sem] theorem spL5_yf (f : FuncId) : spL5.yf f = Pm.Spec.yf (spL4.one 72 glTilts) f := rfl
@[go_sem] theorem spL5_mu (t : TypeId) : spL5.mu t = Pm.Spec.mu (spL4.one 72 glTilts) t := rfl
@[go_sem] theorem spL5_nf (t : TypeId) : spL5.nf t = Pm.Spec.nf (spL4.one 72 glTilts) t := rfl
theorem spL5_ok : SpecOk Try.prog spL5 := Spec.one_ok glTilts_ok spL4_ok
end Go.Proofs.Ytadkjjnnnkfalaa.Lv

/- Part Lb. -/
namespace Go.Oc.Lv
end Go.Oc.Lv
namespace Go.Proofs.Ytadkjjnnnkfalaa.Lv
end Go.Proofs.Ytadkjjnnnkfalaa.Lv
namespace Go.Proofs.Ytadkjjnnnkfalaa.Lv
open Go.RowKit Go.Pm Go.Oc Go.Oc.Lv
set_option maxRecDepth 100000
set_option linter.unusedVariables false
set_option maxHeartbeats 1000000

theorem openedT_no {v : Vial} {l : List Rd} (h : asked v l ≠ 0) : ∃ u : Vial, openedT v l = .tup [u.t, .nilSl, .int .i64 (asked v l)] := by
  unfold openedT asked at *
  cases hv : v.ok
  · exact ⟨⟨0, 0, 0, 0, 0, 0, 0, 0⟩, by simp⟩
  · cases hr : rdsOk v l
    · exact ⟨v, by simp⟩
    · simp [hv, hr] at h
theorem openedT_yes {v : Vial} {l : List Rd} (h : asked v l = 0) : openedT v l = .tup [v.t, .sl ((l.map mid).flatMap Mk.als) l.length false, .int .i64 0] := by
  obtain ⟨hv, hr⟩ := asked_zero h
  unfold openedT; simp [hv, hr]
/-- A row as it comes in: not too long. -/
def Len24 {α : Type} (l : List α) : Prop := l.length ≤ 5864062014806
theorem lTilt_c (v : Vial) {l : List Rd} {s : TV} (hs : IsRow Rd.cs s l) (hl : l.length ≤ 5864062014806) : PCalls Try.prog 33 [v.t, s] (tiltR v l).t := by
  refine pcalls_by Try.mixes spL5_ok (fn := Try.f33) Try.func33 rfl (by kernel_rfl) (by show 2 ≤ _; decide) ?_
  unfold tiltR
  by_cases hk : asked v l = 0
  · obtain ⟨hv, hr⟩ := asked_zero hk
    have hm := mksOk_mid hv hr
    have h8 := rdsOk_len hr
    have h100 : l.length ≤ 100 := by omega
    have ho := openedT_yes hk
    obtain ⟨full, rfl⟩ := hs.ne h8.1
    cases hi : (tilts v (l.map mid)).is <;> simp (decide := true) (maxSteps := 4000000) only [go_sem, Nat.reduceAdd, Nat.reduceSub, Nat.reduceMul, Nat.reduceDiv, Nat.reduceMod, Nat.reduceLT, Nat.reduceLeDiff, Nat.reduceEqDiff, Nat.reduceBEq, Nat.reduceBNe, Nat.reduceGT, Int.reduceAdd, Int.reduceSub, Int.reduceMul, Int.reduceNeg, Int.reduceLT, Int.reduceLE, Int.reduceEq, Int.reduceNe, Int.reduceBEq, Int.reduceBNe, Int.reduceToNat, Int.reduceGT, Int.reduceGE, ↓reduceIte, decide_true, decide_false, Try.f33, Vial.t, Vial.cs, hk, hl, ho, hv, h8.1, h8.2, h100, hm, List.length_map, TZ.t, Span.t, Span.cs, hi, TE.t]
  · obtain ⟨u, ho⟩ := openedT_no hk
    have hk' : (asked v l != 0) = true := by simpa using hk
    rcases hs with ⟨rfl, rfl⟩ | ⟨full, rfl⟩ <;> simp (decide := true) (maxSteps := 4000000) only [go_sem, Nat.reduceAdd, Nat.reduceSub, Nat.reduceMul, Nat.reduceDiv, Nat.reduceMod, Nat.reduceLT, Nat.reduceLeDiff, Nat.reduceEqDiff, Nat.reduceBEq, Nat.reduceBNe, Nat.reduceGT, Int.reduceAdd, Int.reduceSub, Int.reduceMul, Int.reduceNeg, Int.reduceLT, Int.reduceLE, Int.reduceEq, Int.reduceNe, Int.reduceBEq, Int.reduceBNe, Int.reduceToNat, Int.reduceGT, Int.reduceGE, ↓reduceIte, decide_true, decide_false, Try.f33, Vial.t, Vial.cs, unRds, hl, ho, hk, hk', TE.t, Span.t, Span.cs]
def canB (v : Vial) (l : List Mk) (tv tz tt : Int) : Bool := l.all fun m => inB tt (tv * (outM m tz - v.wr)) (tv * (outM m tz + v.wr))
/-- What Can hands back. -/
def canP (v : Vial) (l : List Rd) (tv tz tt : Int) : Bool × Int :=
  if asked v l = 0 then (if inB tv v.v0 v.v1 = true ∧ inB tz v.z0 v.z1 = true then (canB v (l.map mid) tv tz tt, 0) else (false, 32)) else (false, asked v l)
theorem lCan_c (v : Vial) {l : List Rd} {s : TV} (hs : IsRow Rd.cs s l) (hl : l.length ≤ 5864062014806) (tv tz tt : Int) : PCalls Try.prog 32 [v.t, s, .agg [.int .i64 tv, .int .i64 tz, .int .i64 tt]] (.tup [.bool (canP v l tv tz tt).1, .int .i64 (canP v l tv tz tt).2]) := by
  refine pcalls_by Try.mixes spL5_ok (fn := Try.f32) Try.func32 rfl (by kernel_rfl) (by show 3 ≤ _; decide) ?_
  unfold canP
  by_cases hk : asked v l = 0
  · obtain ⟨hv, hr⟩ := asked_zero hk
    have hv' := Vial.ok_iff.1 hv
    have hm := mksOk_mid hv hr
    have h8 := rdsOk_len hr
    have h100 : l.length ≤ 100 := by omega
    have ho := openedT_yes hk
    obtain ⟨full, rfl⟩ := hs.ne h8.1
    cases h1 : inB tv v.v0 v.v1 with
    | false => simp (decide := true) (maxSteps := 4000000) only [go_sem, Nat.reduceAdd, Nat.reduceSub, Nat.reduceMul, Nat.reduceDiv, Nat.reduceMod, Nat.reduceLT, Nat.reduceLeDiff, Nat.reduceEqDiff, Nat.reduceBEq, Nat.reduceBNe, Nat.reduceGT, Int.reduceAdd, Int.reduceSub, Int.reduceMul, Int.reduceNeg, Int.reduceLT, Int.reduceLE, Int.reduceEq, Int.reduceNe, Int.reduceBEq, Int.reduceBNe, Int.reduceToNat, Int.reduceGT, Int.reduceGE, ↓reduceIte, decide_true, decide_false, Try.f32, Vial.t, Vial.cs, hk, hl, ho, h1]
    | true =>
      cases h2 : inB tz v.z0 v.z1 with
      | false => simp (decide := true) (maxSteps := 4000000) only [go_sem, Nat.reduceAdd, Nat.reduceSub, Nat.reduceMul, Nat.reduceDiv, Nat.reduceMod, Nat.reduceLT, Nat.reduceLeDiff, Nat.reduceEqDiff, Nat.reduceBEq, Nat.reduceBNe, Nat.reduceGT, Int.reduceAdd, Int.reduceSub, Int.reduceMul, Int.reduceNeg, Int.reduceLT, Int.reduceLE, Int.reduceEq, Int.reduceNe, Int.reduceBEq, Int.reduceBNe, Int.reduceToNat, Int.reduceGT, Int.reduceGE, ↓reduceIte, decide_true, decide_false, Try.f32, Vial.t, Vial.cs, hk, hl, ho, h1, h2]
      | true =>
        have h1' := inB_iff.1 h1
        have h2' := inB_iff.1 h2
        have hz : 0 ≤ tz ∧ tz ≤ 400 := by omega
        have hw : 0 ≤ v.wr ∧ v.wr ≤ 8 := hv'.2.2.2.2
        simp (decide := true) (maxSteps := 4000000) only [go_sem, Nat.reduceAdd, Nat.reduceSub, Nat.reduceMul, Nat.reduceDiv, Nat.reduceMod, Nat.reduceLT, Nat.reduceLeDiff, Nat.reduceEqDiff, Nat.reduceBEq, Nat.reduceBNe, Nat.reduceGT, Int.reduceAdd, Int.reduceSub, Int.reduceMul, Int.reduceNeg, Int.reduceLT, Int.reduceLE, Int.reduceEq, Int.reduceNe, Int.reduceBEq, Int.reduceBNe, Int.reduceToNat, Int.reduceGT, Int.reduceGE, ↓reduceIte, decide_true, decide_false, Try.f32, Vial.t, Vial.cs, hk, hl, ho, h1, h2]
        refine pwpC_loop (A := { k : Nat // k ≤ l.length ∧ canB v ((l.map mid).take k) tv tz tt = true }) (fun k => { env := [(52, .t (.int .i64 k.1)), (51, .t (.int .i64 l.length)), (50, .t (.sl ((l.map mid).flatMap Mk.als) l.length false)), (8, .ptr 2 0), (5, .ptr 1 0)], heap := [.box (v.cs.map .t), .box [.t (.int .i64 tv), .t (.int .i64 tz), .t (.int .i64 tt)], .box (v.cs.map .t)] }) (fun k => l.length - k.1) ⟨0, by omega, rfl⟩ ?_ (fun k => by rfl) fun ⟨k, hk1, hk2⟩ => ?_
        · simp (decide := true) (maxSteps := 4000000) only [go_sem, Nat.reduceAdd, Nat.reduceSub, Nat.reduceMul, Nat.reduceDiv, Nat.reduceMod, Nat.reduceLT, Nat.reduceLeDiff, Nat.reduceEqDiff, Nat.reduceBEq, Nat.reduceBNe, Nat.reduceGT, Int.reduceAdd, Int.reduceSub, Int.reduceMul, Int.reduceNeg, Int.reduceLT, Int.reduceLE, Int.reduceEq, Int.reduceNe, Int.reduceBEq, Int.reduceBNe, Int.reduceToNat, Int.reduceGT, Int.reduceGE, ↓reduceIte, decide_true, decide_false, Vial.cs]
        · by_cases hlt : (k : Int) < l.length
          · have hlt' : (k : Int) < (l.map mid).length := by simpa using hlt
            obtain ⟨x, hx⟩ := get_lt hlt'
            have hd := flat_at Mk.als (n := 1) (fun _ => rfl) hx
            have hxm : inB x.at' 0 400 = true := List.all_eq_true.1 hm x (List.mem_of_getElem? hx)
            have hxm' := inB_iff.1 hxm
            have hc1 : IntKind.i64.wrap (k + 1) = ((k + 1 : Nat) : Int) := by rw [wrap_in (by omega) (by omega)]; omega
            have hd1 : l.length - (k + 1) < l.length - k := by omega
            have ho1 : -1000 ≤ outM x tz ∧ outM x tz ≤ 1000 := by unfold outM; split <;> omega
            have p1 := mulB (a := outM x tz - v.wr) (b := tv) (by omega) (by omega)
            have p2 := mulB (a := outM x tz + v.wr) (b := tv) (by omega) (by omega)
            have w1 : IntKind.i64.wrap (tv * (outM x tz - v.wr)) = tv * (outM x tz - v.wr) := by rw [Int.mul_comm]; exact wrap_in (by omega) (by omega)
            have w2 : IntKind.i64.wrap (tv * (outM x tz + v.wr)) = tv * (outM x tz + v.wr) := by rw [Int.mul_comm]; exact wrap_in (by omega) (by omega)
            have htk := take_all (fun m => inB tt (tv * (outM m tz - v.wr)) (tv * (outM m tz + v.wr))) hx
            cases hb : inB tt (tv * (outM x tz - v.wr)) (tv * (outM x tz + v.wr)) with
            | false =>
              have hf : canB v (l.map mid) tv tz tt = false := by
                unfold canB
                refine all_of_take (k := k + 1) ?_
                rw [htk, hb, Bool.and_false]
              obtain ⟨a, tu⟩ := x
              cases tu <;> simp only [outM, if_true, if_false, Bool.false_eq_true] at w1 w2 hb <;> simp (decide := true) (maxSteps := 4000000) only [go_sem, Nat.reduceAdd, Nat.reduceSub, Nat.reduceMul, Nat.reduceDiv, Nat.reduceMod, Nat.reduceLT, Nat.reduceLeDiff, Nat.reduceEqDiff, Nat.reduceBEq, Nat.reduceBNe, Nat.reduceGT, Int.reduceAdd, Int.reduceSub, Int.reduceMul, Int.reduceNeg, Int.reduceLT, Int.reduceLE, Int.reduceEq, Int.reduceNe, Int.reduceBEq, Int.reduceBNe, Int.reduceToNat, Int.reduceGT, Int.reduceGE, ↓reduceIte, decide_true, decide_false, hlt, hd, Mk.als, Mk.al, Vial.cs, hxm, hz, hw, w1, w2, hb, hf]
            | true =>
              have ht : canB v ((l.map mid).take (k + 1)) tv tz tt = true := by
                unfold canB at hk2 ⊢
                rw [htk, hb, hk2]; rfl
              obtain ⟨a, tu⟩ := x
              cases tu <;> simp only [outM, if_true, if_false, Bool.false_eq_true] at w1 w2 hb <;> simp (decide := true) (maxSteps := 4000000) only [go_sem, Nat.reduceAdd, Nat.reduceSub, Nat.reduceMul, Nat.reduceDiv, Nat.reduceMod, Nat.reduceLT, Nat.reduceLeDiff, Nat.reduceEqDiff, Nat.reduceBEq, Nat.reduceBNe, Nat.reduceGT, Int.reduceAdd, Int.reduceSub, Int.reduceMul, Int.reduceNeg, Int.reduceLT, Int.reduceLE, Int.reduceEq, Int.reduceNe, Int.reduceBEq, Int.reduceBNe, Int.reduceToNat, Int.reduceGT, Int.reduceGE, ↓reduceIte, decide_true, decide_false, hlt, hd, Mk.als, Mk.al, Vial.cs, hxm, hz, hw, w1, w2, hb]
              all_goals refine ⟨⟨k + 1, by omega, ht⟩, ?_⟩
              all_goals simp (decide := true) (maxSteps := 4000000) only [go_sem, Nat.reduceAdd, Nat.reduceSub, Nat.reduceMul, Nat.reduceDiv, Nat.reduceMod, Nat.reduceLT, Nat.reduceLeDiff, Nat.reduceEqDiff, Nat.reduceBEq, Nat.reduceBNe, Nat.reduceGT, Int.reduceAdd, Int.reduceSub, Int.reduceMul, Int.reduceNeg, Int.reduceLT, Int.reduceLE, Int.reduceEq, Int.reduceNe, Int.reduceBEq, Int.reduceBNe, Int.reduceToNat, Int.reduceGT, Int.reduceGE, ↓reduceIte, decide_true, decide_false, hc1, hd1, Vial.cs]
          · have hkl : k = (l.map mid).length := by rw [List.length_map]; omega
            rw [hkl, List.take_length] at hk2
            simp (decide := true) (maxSteps := 4000000) only [go_sem, Nat.reduceAdd, Nat.reduceSub, Nat.reduceMul, Nat.reduceDiv, Nat.reduceMod, Nat.reduceLT, Nat.reduceLeDiff, Nat.reduceEqDiff, Nat.reduceBEq, Nat.reduceBNe, Nat.reduceGT, Int.reduceAdd, Int.reduceSub, Int.reduceMul, Int.reduceNeg, Int.reduceLT, Int.reduceLE, Int.reduceEq, Int.reduceNe, Int.reduceBEq, Int.reduceBNe, Int.reduceToNat, Int.reduceGT, Int.reduceGE, ↓reduceIte, decide_true, decide_false, hlt, hk2]
  · obtain ⟨u, ho⟩ := openedT_no hk
    have hk' : (asked v l != 0) = true := by simpa using hk
    rcases hs with ⟨rfl, rfl⟩ | ⟨full, rfl⟩ <;> simp (decide := true) (maxSteps := 4000000) only [go_sem, Nat.reduceAdd, Nat.reduceSub, Nat.reduceMul, Nat.reduceDiv, Nat.reduceMod, Nat.reduceLT, Nat.reduceLeDiff, Nat.reduceEqDiff, Nat.reduceBEq, Nat.reduceBNe, Nat.reduceGT, Int.reduceAdd, Int.reduceSub, Int.reduceMul, Int.reduceNeg, Int.reduceLT, Int.reduceLE, Int.reduceEq, Int.reduceNe, Int.reduceBEq, Int.reduceBNe, Int.reduceToNat, Int.reduceGT, Int.reduceGE, ↓reduceIte, decide_true, decide_false, Try.f32, Vial.t, Vial.cs, unRds, hl, ho, hk, hk']
end Go.Proofs.Ytadkjjnnnkfalaa.Lv

/- Part Lc. -/
namespace Go.Oc.Lv
end Go.Oc.Lv
namespace Go.Proofs.Ytadkjjnnnkfalaa.Lv
end Go.Proofs.Ytadkjjnnnkfalaa.Lv
namespace Go.Proofs.Ytadkjjnnnkfalaa.Lv
open Go.RowKit Go.Pm Go.Oc Go.Oc.Lv
set_option maxRecDepth 100000
set_option linter.unusedVariables false
set_option maxHeartbeats 1000000

theorem ediv_tdiv {a b : Int} (h : 0 < b) : (if a.tmod b < 0 then a.tdiv b - 1 else a.tdiv b) = a / b := by
  have h1 := Int.mul_tdiv_add_tmod a b
  have h2 := Int.mul_ediv_add_emod a b
  have h3 := Int.emod_nonneg a (show b ≠ 0 by omega)
  have h4 := Int.emod_lt_of_pos a h
  have h5 : -b < a.tmod b ∧ a.tmod b < b := by
    have := Int.tmod_lt_of_pos a h
    have h6 := Int.tmod_lt_of_pos (-a) h
    rw [Int.neg_tmod] at h6
    omega
  by_cases hn : a.tmod b < 0
  · rw [if_pos hn]
    have e : b * (a.tdiv b - 1) + (a.tmod b + b) = a := by rw [Int.mul_sub]; omega
    have := (Int.ediv_emod_unique h (a := a) (r := a.tmod b + b) (q := a.tdiv b - 1)).2 ⟨by omega, by omega, by omega⟩
    exact this.1.symm
  · rw [if_neg hn]
    have := (Int.ediv_emod_unique h (a := a) (r := a.tmod b) (q := a.tdiv b)).2 ⟨by omega, by omega, by omega⟩
    exact this.1.symm
theorem divB {a b : Int} (hb : 0 < b) (ha : -4000000000000000000 ≤ a ∧ a ≤ 4000000000000000000) : -4000000000000000000 ≤ a / b ∧ a / b ≤ 4000000000000000000 := by
  have h1 := Int.ediv_le_self (a := 4000000000000000000) b (by omega)
  have h2 := Int.ediv_le_ediv hb (show a ≤ 4000000000000000000 by omega)
  have h3 := Int.ediv_le_ediv hb (show -4000000000000000000 ≤ a by omega)
  have h4 : -4000000000000000000 ≤ (-4000000000000000000) / b := by
    rw [Int.le_ediv_iff_mul_le hb]
    omega
  omega
theorem lDown_c (a b : Int) (hb : 0 < b) (ha : -4000000000000000000 ≤ a ∧ a ≤ 4000000000000000000) : PCalls Try.prog 77 [.int .i64 a, .int .i64 b] (.int .i64 (a / b)) := by
  refine pcalls_by Try.mixes noSpec_ok (fn := Try.f77) Try.func77 rfl (by kernel_rfl) (by show 2 ≤ _; decide) ?_
  have hne : ¬ b = 0 := by omega
  have hq := ediv_tdiv (a := a) hb
  have hd := divB hb ha
  by_cases hn : a.tmod b < 0
  · rw [if_pos hn] at hq
    have w1 : IntKind.i64.wrap (a.tdiv b) = a.tdiv b := wrap_in (by omega) (by omega)
    have w2 : IntKind.i64.wrap (a.tdiv b - 1) = a / b := by rw [wrap_in (by omega) (by omega)]; exact hq
    simp (decide := true) (maxSteps := 4000000) only [go_sem, Nat.reduceAdd, Nat.reduceSub, Nat.reduceMul, Nat.reduceDiv, Nat.reduceMod, Nat.reduceLT, Nat.reduceLeDiff, Nat.reduceEqDiff, Nat.reduceBEq, Nat.reduceBNe, Nat.reduceGT, Int.reduceAdd, Int.reduceSub, Int.reduceMul, Int.reduceNeg, Int.reduceLT, Int.reduceLE, Int.reduceEq, Int.reduceNe, Int.reduceBEq, Int.reduceBNe, Int.reduceToNat, Int.reduceGT, Int.reduceGE, ↓reduceIte, decide_true, decide_false, Try.f77, hne, hn, w1, w2]
  · rw [if_neg hn] at hq
    have w1 : IntKind.i64.wrap (a.tdiv b) = a / b := by rw [wrap_in (by omega) (by omega)]; exact hq
    simp (decide := true) (maxSteps := 4000000) only [go_sem, Nat.reduceAdd, Nat.reduceSub, Nat.reduceMul, Nat.reduceDiv, Nat.reduceMod, Nat.reduceLT, Nat.reduceLeDiff, Nat.reduceEqDiff, Nat.reduceBEq, Nat.reduceBNe, Nat.reduceGT, Int.reduceAdd, Int.reduceSub, Int.reduceMul, Int.reduceNeg, Int.reduceLT, Int.reduceLE, Int.reduceEq, Int.reduceNe, Int.reduceBEq, Int.reduceBNe, Int.reduceToNat, Int.reduceGT, Int.reduceGE, ↓reduceIte, decide_true, decide_false, Try.f77, hne, hn, w1]
noncomputable def glDown : List TV → Option TV
  | [.int .i64 a, .int .i64 b] => if 0 < b ∧ -4000000000000000000 ≤ a ∧ a ≤ 4000000000000000000 then some (.int .i64 (a / b)) else none
  | _ => none
theorem glDown_ok : ∀ xs r, glDown xs = some r → PCalls Try.prog 77 xs r := by
  intro xs r h
  unfold glDown at h
  split at h
  · split at h
    · rename_i hc; cases h; exact lDown_c _ _ hc.1 hc.2
    · cases h
  · cases h
attribute [go_sem] glDown
noncomputable def spC1 : Pm.Spec := spL1.one 77 glDown
@[go_sem] theorem spC1_p (f : FuncId) (xs : List TV) : spC1.p f xs = Pm.Spec.p (spL1.one 77 glDown) f xs := rfl
@[go_sem] theorem spC1_h (f : FuncId) (ps : List PV) (hl : List PO) : spC1.h f ps hl = Pm.Spec.h (spL1.one 77 glDown) f ps hl := rfl
@[go_sem] theorem spC1_y (Y : Pm.YS) (f : FuncId) (ps : List PV) (hl : List PO) : spC1.y Y f ps hl = Pm.Spec.y (spL1.one 77 glDown) Y f ps hl := rfl
@[go_sem] theorem spC1_fz (f : FuncId) : spC1.fz f = Pm.Spec.fz (spL1.one 77 glDown) f := rfl
@[go_sem] theorem spC1_fr (f : FuncId) : spC1.fr f = Pm.Spec.fr (spL1.one 77 glDown) f := rfl
@[go_sem] theorem spC1_yf (f : FuncId) : spC1.yf f = Pm.Spec.yf (spL1.one 77 glDown) f := rfl
@[go_sem] theorem spC1_mu (t : TypeId) : spC1.mu t = Pm.Spec.mu (spL1.one 77 glDown) t := rfl
@[go_sem] theorem spC1_nf (t : TypeId) : spC1.nf t = Pm.Spec.nf (spL1.one 77 glDown) t := rfl
theorem spC1_ok : SpecOk Try.prog spC1 := Spec.one_ok glDown_ok spL1_ok
theorem lUp_c (a b : Int) (hb : 0 < b) (ha : -4000000000000000000 ≤ a ∧ a ≤ 4000000000000000000) : PCalls Try.prog 76 [.int .i64 a, .int .i64 b] (.int .i64 (-((-a) / b))) := by
  refine pcalls_by Try.mixes spC1_ok (fn := Try.f76) Try.func76 rfl (by kernel_rfl) (by show 2 ≤ _; decide) ?_
  have w1 : IntKind.i64.wrap (0 - a) = -a := by rw [wrap_in (by omega) (by omega)]; omega
  have hc : 0 < b ∧ -4000000000000000000 ≤ -a ∧ -a ≤ 4000000000000000000 := by omega
  have hd := divB hb (a := -a) (by omega)
  have w2 : IntKind.i64.wrap (0 - (-a) / b) = -((-a) / b) := by rw [wrap_in (by omega) (by omega)]; omega
  simp (decide := true) (maxSteps := 4000000) only [go_sem, Nat.reduceAdd, Nat.reduceSub, Nat.reduceMul, Nat.reduceDiv, Nat.reduceMod, Nat.reduceLT, Nat.reduceLeDiff, Nat.reduceEqDiff, Nat.reduceBEq, Nat.reduceBNe, Nat.reduceGT, Int.reduceAdd, Int.reduceSub, Int.reduceMul, Int.reduceNeg, Int.reduceLT, Int.reduceLE, Int.reduceEq, Int.reduceNe, Int.reduceBEq, Int.reduceBNe, Int.reduceToNat, Int.reduceGT, Int.reduceGE, ↓reduceIte, decide_true, decide_false, Try.f76, w1, hc, w2]
noncomputable def glUp : List TV → Option TV
  | [.int .i64 a, .int .i64 b] => if 0 < b ∧ -4000000000000000000 ≤ a ∧ a ≤ 4000000000000000000 then some (.int .i64 (-((-a) / b))) else none
  | _ => none
theorem glUp_ok : ∀ xs r, glUp xs = some r → PCalls Try.prog 76 xs r := by
  intro xs r h
  unfold glUp at h
  split at h
  · split at h
    · rename_i hc; cases h; exact lUp_c _ _ hc.1 hc.2
    · cases h
  · cases h
attribute [go_sem] glUp
noncomputable def spC1u : Pm.Spec := spC1.one 76 glUp
@[go_sem] theorem spC1u_p (f : FuncId) (xs : List TV) : spC1u.p f xs = Pm.Spec.p (spC1.one 76 glUp) f xs := rfl
@[go_sem] theorem spC1u_h (f : FuncId) (ps : List PV) (hl : List PO) : spC1u.h f ps hl = Pm.Spec.h (spC1.one 76 glUp) f ps hl := rfl
@[go_sem] theorem spC1u_y (Y : Pm.YS) (f : FuncId) (ps : List PV) (hl : List PO) : spC1u.y Y f ps hl = Pm.Spec.y (spC1.one 76 glUp) Y f ps hl := rfl
@[go_sem] theorem spC1u_fz (f : FuncId) : spC1u.fz f = Pm.Spec.fz (spC1.one 76 glUp) f := rfl
@[go_sem] theorem spC1u_fr (f : FuncId) : spC1u.fr f = Pm.Spec.fr (spC1.one 76 glUp) f := rfl
@[go_sem] theorem spC1u_yf (f : FuncId) : spC1u.yf f = Pm.Spec.yf (spC1.one 76 glUp) f := rfl
@[go_sem] theorem spC1u_mu (t : TypeId) : spC1u.mu t = Pm.Spec.mu (spC1.one 76 glUp) t := rfl
@[go_sem] theorem spC1u_nf (t : TypeId) : spC1u.nf t = Pm.Spec.nf (spC1.one 76 glUp) t := rfl
theorem spC1u_ok : SpecOk Try.prog spC1u := Spec.one_ok glUp_ok spC1_ok
noncomputable def spC2 : Pm.Spec := spC1u
theorem spC2_ok : SpecOk Try.prog spC2 := spC1u_ok
@[go_sem] theorem spC2_p (f : FuncId) (xs : List TV) : spC2.p f xs = Pm.Spec.p (spC1u) f xs := rfl
@[go_sem] theorem spC2_h (f : FuncId) (ps : List PV) (hl : List PO) : spC2.h f ps hl = Pm.Spec.h (spC1u) f ps hl := rfl
@[go_sem] theorem spC2_y (Y : Pm.YS) (f : FuncId) (ps : List PV) (hl : List PO) : spC2.y Y f ps hl = Pm.Spec.y (spC1u) Y f ps hl := rfl
@[go_sem] theorem spC2_fz (f : FuncId) : spC2.fz f = Pm.Spec.fz (spC1u) f := rfl
@[go_sem] theorem spC2_fr (f : FuncId) : spC2.fr f = Pm.Spec.fr (spC1u) f := rfl
@[go_sem] theorem spC2_yf (f : FuncId) : spC2.yf f = Pm.Spec.yf (spC1u) f := rfl
@[go_sem] theorem spC2_mu (t : TypeId) : spC2.mu t = Pm.Spec.mu (spC1u) t := rfl
@[go_sem] theorem spC2_nf (t : TypeId) : spC2.nf t = Pm.Spec.nf (spC1u) t := rfl
/-- The clicks, and the error. -/
def clicksP (t : Span) (worth bound : Int) : Int × Int :=
  if spannedB t (-1000000) 1000000 = true ∧ inB worth 1 100 = true ∧ inB bound 0 1000000 = true then
    (if -((-(-bound - t.lo)) / worth) > (bound - t.hi) / worth then (0, 4) else if -((-(-bound - t.lo)) / worth) > 0 then (-((-(-bound - t.lo)) / worth), 0) else if (bound - t.hi) / worth < 0 then ((bound - t.hi) / worth, 0) else (0, 0))
  else (0, 7)
theorem lClicks_c (t : Span) (worth bound : Int) : PCalls Try.prog 38 [t.t, .int .i64 worth, .int .i64 bound] (.tup [.int .i64 (clicksP t worth bound).1, .int .i64 (clicksP t worth bound).2]) := by
  refine pcalls_by Try.mixes spC2_ok (fn := Try.f38) Try.func38 rfl (by kernel_rfl) (by show 3 ≤ _; decide) ?_
  unfold clicksP
  cases h1 : spannedB t (-1000000) 1000000 with
  | false => simp (decide := true) (maxSteps := 4000000) only [go_sem, Nat.reduceAdd, Nat.reduceSub, Nat.reduceMul, Nat.reduceDiv, Nat.reduceMod, Nat.reduceLT, Nat.reduceLeDiff, Nat.reduceEqDiff, Nat.reduceBEq, Nat.reduceBNe, Nat.reduceGT, Int.reduceAdd, Int.reduceSub, Int.reduceMul, Int.reduceNeg, Int.reduceLT, Int.reduceLE, Int.reduceEq, Int.reduceNe, Int.reduceBEq, Int.reduceBNe, Int.reduceToNat, Int.reduceGT, Int.reduceGE, ↓reduceIte, decide_true, decide_false, Try.f38, Span.t, Span.cs, h1]
  | true =>
    cases h2 : inB worth 1 100 with
    | false => simp (decide := true) (maxSteps := 4000000) only [go_sem, Nat.reduceAdd, Nat.reduceSub, Nat.reduceMul, Nat.reduceDiv, Nat.reduceMod, Nat.reduceLT, Nat.reduceLeDiff, Nat.reduceEqDiff, Nat.reduceBEq, Nat.reduceBNe, Nat.reduceGT, Int.reduceAdd, Int.reduceSub, Int.reduceMul, Int.reduceNeg, Int.reduceLT, Int.reduceLE, Int.reduceEq, Int.reduceNe, Int.reduceBEq, Int.reduceBNe, Int.reduceToNat, Int.reduceGT, Int.reduceGE, ↓reduceIte, decide_true, decide_false, Try.f38, Span.t, Span.cs, h1, h2]
    | true =>
      cases h3 : inB bound 0 1000000 with
      | false => simp (decide := true) (maxSteps := 4000000) only [go_sem, Nat.reduceAdd, Nat.reduceSub, Nat.reduceMul, Nat.reduceDiv, Nat.reduceMod, Nat.reduceLT, Nat.reduceLeDiff, Nat.reduceEqDiff, Nat.reduceBEq, Nat.reduceBNe, Nat.reduceGT, Int.reduceAdd, Int.reduceSub, Int.reduceMul, Int.reduceNeg, Int.reduceLT, Int.reduceLE, Int.reduceEq, Int.reduceNe, Int.reduceBEq, Int.reduceBNe, Int.reduceToNat, Int.reduceGT, Int.reduceGE, ↓reduceIte, decide_true, decide_false, Try.f38, Span.t, Span.cs, h1, h2, h3]
      | true =>
        have h1' := h1
        have h2' := inB_iff.1 h2
        have h3' := inB_iff.1 h3
        simp only [spannedB, Bool.and_eq_true, decide_eq_true_eq] at h1'
        have w0 : IntKind.i64.wrap (0 - bound) = -bound := by rw [wrap_in (by omega) (by omega)]; omega
        have w1 : IntKind.i64.wrap (-bound - t.lo) = -bound - t.lo := wrap_in (by omega) (by omega)
        have w2 : IntKind.i64.wrap (bound - t.hi) = bound - t.hi := wrap_in (by omega) (by omega)
        have c1 : 0 < worth ∧ -4000000000000000000 ≤ -bound - t.lo ∧ -bound - t.lo ≤ 4000000000000000000 := by omega
        have c2 : 0 < worth ∧ -4000000000000000000 ≤ bound - t.hi ∧ bound - t.hi ≤ 4000000000000000000 := by omega
        by_cases g1 : -((-(-bound - t.lo)) / worth) > (bound - t.hi) / worth
        · simp (decide := true) (maxSteps := 4000000) only [go_sem, Nat.reduceAdd, Nat.reduceSub, Nat.reduceMul, Nat.reduceDiv, Nat.reduceMod, Nat.reduceLT, Nat.reduceLeDiff, Nat.reduceEqDiff, Nat.reduceBEq, Nat.reduceBNe, Nat.reduceGT, Int.reduceAdd, Int.reduceSub, Int.reduceMul, Int.reduceNeg, Int.reduceLT, Int.reduceLE, Int.reduceEq, Int.reduceNe, Int.reduceBEq, Int.reduceBNe, Int.reduceToNat, Int.reduceGT, Int.reduceGE, ↓reduceIte, decide_true, decide_false, Try.f38, Span.t, Span.cs, h1, h2, h3, w0, w1, w2, c1, c2, g1]
        · by_cases g2 : -((-(-bound - t.lo)) / worth) > 0
          · simp (decide := true) (maxSteps := 4000000) only [go_sem, Nat.reduceAdd, Nat.reduceSub, Nat.reduceMul, Nat.reduceDiv, Nat.reduceMod, Nat.reduceLT, Nat.reduceLeDiff, Nat.reduceEqDiff, Nat.reduceBEq, Nat.reduceBNe, Nat.reduceGT, Int.reduceAdd, Int.reduceSub, Int.reduceMul, Int.reduceNeg, Int.reduceLT, Int.reduceLE, Int.reduceEq, Int.reduceNe, Int.reduceBEq, Int.reduceBNe, Int.reduceToNat, Int.reduceGT, Int.reduceGE, ↓reduceIte, decide_true, decide_false, Try.f38, Span.t, Span.cs, h1, h2, h3, w0, w1, w2, c1, c2, g1, g2]
          · by_cases g3 : (bound - t.hi) / worth < 0 <;> simp (decide := true) (maxSteps := 4000000) only [go_sem, Nat.reduceAdd, Nat.reduceSub, Nat.reduceMul, Nat.reduceDiv, Nat.reduceMod, Nat.reduceLT, Nat.reduceLeDiff, Nat.reduceEqDiff, Nat.reduceBEq, Nat.reduceBNe, Nat.reduceGT, Int.reduceAdd, Int.reduceSub, Int.reduceMul, Int.reduceNeg, Int.reduceLT, Int.reduceLE, Int.reduceEq, Int.reduceNe, Int.reduceBEq, Int.reduceBNe, Int.reduceToNat, Int.reduceGT, Int.reduceGE, ↓reduceIte, decide_true, decide_false, Try.f38, Span.t, Span.cs, h1, h2, h3, w0, w1, w2, c1, c2, g1, g2, g3]
end Go.Proofs.Ytadkjjnnnkfalaa.Lv

/- Part LTop. -/
namespace Go.Oc.Lv
end Go.Oc.Lv
namespace Go.Proofs.Ytadkjjnnnkfalaa.Lv
end Go.Proofs.Ytadkjjnnnkfalaa.Lv
namespace Go.Proofs.Ytadkjjnnnkfalaa.Lv
open Go.RowKit Go.Pm Go.Oc Go.Oc.Lv
set_option maxRecDepth 100000
set_option linter.unusedVariables false

noncomputable def glTilt : List TV → Option TV
  | [.agg [.int .i64 m, .int .i64 a, .int .i64 b, .int .i64 c, .int .i64 d, .int .i64 e, .int .i64 f, .int .i64 g], s] => match rowL unRds s with
    | some l => if l.length ≤ 5864062014806 then some ((tiltR ⟨m, a, b, c, d, e, f, g⟩ l).t) else none
    | none => none
  | _ => none
theorem glTilt_ok : ∀ xs r, glTilt xs = some r → PCalls Try.prog 33 xs r := by
  intro xs r h
  unfold glTilt at h
  split at h
  · split at h
    · rename_i l hl
      have hl := rowL_some (un := unRds) (by first | rfl | exact unRds_nil) (@unRds_some) hl
      split at h
      · rename_i hc; cases h; exact lTilt_c ⟨_, _, _, _, _, _, _, _⟩ hl hc
      · cases h
    · cases h
  · cases h
attribute [go_sem] glTilt
noncomputable def glCan : List TV → Option TV
  | [.agg [.int .i64 m, .int .i64 a, .int .i64 b, .int .i64 c, .int .i64 d, .int .i64 e, .int .i64 f, .int .i64 g], s, .agg [.int .i64 tv, .int .i64 tz, .int .i64 tt]] => match rowL unRds s with
    | some l => if l.length ≤ 5864062014806 then some (.tup [.bool (canP ⟨m, a, b, c, d, e, f, g⟩ l tv tz tt).1, .int .i64 (canP ⟨m, a, b, c, d, e, f, g⟩ l tv tz tt).2]) else none
    | none => none
  | _ => none
theorem glCan_ok : ∀ xs r, glCan xs = some r → PCalls Try.prog 32 xs r := by
  intro xs r h
  unfold glCan at h
  split at h
  · split at h
    · rename_i l hl
      have hl := rowL_some (un := unRds) (by first | rfl | exact unRds_nil) (@unRds_some) hl
      split at h
      · rename_i hc; cases h; exact lCan_c ⟨_, _, _, _, _, _, _, _⟩ hl hc _ _ _
      · cases h
    · cases h
  · cases h
attribute [go_sem] glCan
noncomputable def glClicks : List TV → Option TV
  | [.agg [.int .i64 a, .int .i64 b], .int .i64 w, .int .i64 c] => some (.tup [.int .i64 (clicksP ⟨a, b⟩ w c).1, .int .i64 (clicksP ⟨a, b⟩ w c).2])
  | _ => none
theorem glClicks_ok : ∀ xs r, glClicks xs = some r → PCalls Try.prog 38 xs r := by
  intro xs r h
  unfold glClicks at h
  split at h
  · cases h; exact lClicks_c ⟨_, _⟩ _ _
  · cases h
attribute [go_sem] glClicks
end Go.Proofs.Ytadkjjnnnkfalaa.Lv

/- Part Ln. -/
namespace Go.Oc.Lv
end Go.Oc.Lv
namespace Go.Proofs.Ytadkjjnnnkfalaa.Lv
end Go.Proofs.Ytadkjjnnnkfalaa.Lv
namespace Go.Oc.Lv
open Go Go.Pm Go.Proofs.Ytadkjjnnnkfalaa.Lv

theorem snoc_ind {α : Type} {p : List α → Prop} (h0 : p []) (h1 : ∀ l x, p l → p (l ++ [x])) (l : List α) : p l := by
  have : ∀ l : List α, p l.reverse := by
    intro l
    induction l with
    | nil => exact h0
    | cons x l ih => rw [List.reverse_cons]; exact h1 _ _ ih
  simpa using this l.reverse
theorem max_mul_le {a b c t : Int} (hc : 0 ≤ c) : max a b * c ≤ t ↔ a * c ≤ t ∧ b * c ≤ t := by
  rcases Int.le_total a b with h | h
  · rw [Int.max_eq_right h]
    have := Int.mul_le_mul_of_nonneg_right h hc
    constructor
    · intro h; omega
    · intro h; exact h.2
  · rw [Int.max_eq_left h]
    have := Int.mul_le_mul_of_nonneg_right h hc
    constructor
    · intro h; omega
    · intro h; exact h.1
theorem le_min_mul {a b c t : Int} (hc : 0 ≤ c) : t ≤ min a b * c ↔ t ≤ a * c ∧ t ≤ b * c := by
  rcases Int.le_total a b with h | h
  · rw [Int.min_eq_left h]
    have := Int.mul_le_mul_of_nonneg_right h hc
    constructor
    · intro h; omega
    · intro h; exact h.1
  · rw [Int.min_eq_right h]
    have := Int.mul_le_mul_of_nonneg_right h hc
    constructor
    · intro h; omega
    · intro h; exact h.2
theorem fold_in_iff {w z c t : Int} (hc : 0 ≤ c) : ∀ (l : List Mk) (s : Span),
    ((l.foldl (inS w z) s).lo * c ≤ t ∧ t ≤ (l.foldl (inS w z) s).hi * c) ↔ (s.lo * c ≤ t ∧ t ≤ s.hi * c) ∧ ∀ m ∈ l, (outM m z - w) * c ≤ t ∧ t ≤ (outM m z + w) * c
  | [], s => by simp
  | m :: l, s => by
    rw [List.foldl_cons, fold_in_iff hc l (inS w z s m)]
    simp only [inS, max_mul_le hc, le_min_mul hc, List.forall_mem_cons]
    constructor
    · rintro ⟨⟨⟨a, b⟩, c, d⟩, e⟩; exact ⟨⟨a, c⟩, ⟨b, d⟩, e⟩
    · rintro ⟨⟨a, c⟩, ⟨b, d⟩, e⟩; exact ⟨⟨⟨a, b⟩, c, d⟩, e⟩
theorem outM_b {m : Mk} {z : Int} (hm : inB m.at' 0 400 = true) (hz : 0 ≤ z ∧ z ≤ 400) : -400 ≤ outM m z ∧ outM m z ≤ 400 := by
  have := inB_iff.1 hm
  unfold outM; split <;> omega
/-- With a value c, a tilt t and a zero z the middles can be so. -/
theorem within_can {v : Vial} (hv : v.ok = true) {l : List Mk} (hm : mksOk l = true) (h1 : 1 ≤ l.length) {tv tz tt : Int} (h2 : v.v0 ≤ tv) (h3 : tv ≤ v.v1) (h4 : v.z0 ≤ tz) (h5 : tz ≤ v.z1) :
    (decide ((withinS v.wr l tz).lo ≤ (withinS v.wr l tz).hi) && inB tt ((withinS v.wr l tz).lo * tv) ((withinS v.wr l tz).hi * tv)) = canB v l tv tz tt := by
  have hv' := Vial.ok_iff.1 hv
  have key := fold_in_iff (w := v.wr) (z := tz) (c := tv) (t := tt) (by omega) l ⟨-10000, 10000⟩
  rw [show l.foldl (inS v.wr tz) ⟨-10000, 10000⟩ = withinS v.wr l tz from rfl] at key
  rw [Bool.eq_iff_iff]
  simp only [Bool.and_eq_true, decide_eq_true_eq, inB_iff, canB, List.all_eq_true]
  have hc : ∀ m : Mk, (outM m tz - v.wr) * tv = tv * (outM m tz - v.wr) ∧ (outM m tz + v.wr) * tv = tv * (outM m tz + v.wr) := fun m => ⟨Int.mul_comm _ _, Int.mul_comm _ _⟩
  constructor
  · rintro ⟨_, h⟩ m hm'
    have := (key.1 h).2 m hm'
    rw [(hc m).1, (hc m).2] at this
    exact this
  · intro h
    have hall : ∀ m ∈ l, (outM m tz - v.wr) * tv ≤ tt ∧ tt ≤ (outM m tz + v.wr) * tv := fun m hm' => by rw [(hc m).1, (hc m).2]; exact h m hm'
    have hs : (-10000 * tv ≤ tt ∧ tt ≤ 10000 * tv) := by
      obtain ⟨m, hm'⟩ : ∃ m, m ∈ l := by cases l with | nil => simp at h1 | cons m _ => exact ⟨m, List.mem_cons_self⟩
      have ho := outM_b (z := tz) (List.all_eq_true.1 hm m hm') (by omega)
      have := hall m hm'
      have a1 := Int.mul_le_mul_of_nonneg_right (c := tv) (show (-10000 : Int) ≤ outM m tz - v.wr by omega) (by omega)
      have a2 := Int.mul_le_mul_of_nonneg_right (c := tv) (show outM m tz + v.wr ≤ (10000 : Int) by omega) (by omega)
      omega
    have h' := key.2 ⟨hs, hall⟩
    refine ⟨?_, h'⟩
    have : (withinS v.wr l tz).lo * tv ≤ (withinS v.wr l tz).hi * tv := by omega
    exact Int.le_of_mul_le_mul_right this (by omega)
/-- A zero with which the middles can be so. -/
def feas (v : Vial) (l : List Mk) (z : Int) : Prop := (v.z0 ≤ z ∧ z ≤ v.z1) ∧ (withinS v.wr l z).lo ≤ (withinS v.wr l z).hi
theorem zerosOf_feas {v : Vial} {l : List Mk} {y : Int × Span} : y ∈ zerosOf v l (allZ v) ↔ y.2 = withinS v.wr l y.1 ∧ feas v l y.1 := by
  constructor
  · intro h
    obtain ⟨a, b, c, d⟩ := zerosOf_mem h
    exact ⟨a, ⟨c, d⟩, by rw [← a]; exact b⟩
  · rintro ⟨a, ⟨c, d⟩, b⟩
    unfold zerosOf allZ range
    simp only [List.mem_filterMap, List.mem_map, List.mem_range]
    refine ⟨y.1, ⟨(y.1 - v.z0).toNat, by omega, by omega⟩, ?_⟩
    rw [if_pos b, ← a]
/-- What a fold of tilts has. -/
structure Has (v : Vial) (ys : List (Int × Span)) (x : TZ) : Prop where
  is : x.is = true ↔ ys ≠ []
  lo : ∀ y ∈ ys, x.tilt.lo ≤ leastP v y.2.lo
  hi : ∀ y ∈ ys, mostP v y.2.hi ≤ x.tilt.hi
  loAt : ys ≠ [] → ∃ y ∈ ys, x.tilt.lo = leastP v y.2.lo
  hiAt : ys ≠ [] → ∃ y ∈ ys, x.tilt.hi = mostP v y.2.hi
  zlo : ys ≠ [] → ∃ y ∈ ys, x.zero.lo = y.1
  zhi : ys ≠ [] → ∃ y ∈ ys, x.zero.hi = y.1
theorem has_snoc {v : Vial} {ys : List (Int × Span)} {x : TZ} (h : Has v ys x) (y : Int × Span) : Has v (ys ++ [y]) (tiltStep v x y) := by
  by_cases hi : x.is = true
  · have hn := h.is.1 hi
    have e : tiltStep v x y = ⟨⟨min x.tilt.lo (leastP v y.2.lo), max x.tilt.hi (mostP v y.2.hi)⟩, ⟨x.zero.lo, y.1⟩, true⟩ := by unfold tiltStep; rw [if_pos hi]
    rw [e]
    refine ⟨by simp, ?_, ?_, fun _ => ?_, fun _ => ?_, fun _ => ?_, fun _ => ⟨y, by simp, rfl⟩⟩
    · intro w hw
      rcases List.mem_append.1 hw with hw | hw
      · have := h.lo w hw; simp only; omega
      · cases List.mem_singleton.1 hw; simp only; omega
    · intro w hw
      rcases List.mem_append.1 hw with hw | hw
      · have := h.hi w hw; simp only; omega
      · cases List.mem_singleton.1 hw; simp only; omega
    · obtain ⟨w, hw, ew⟩ := h.loAt hn
      rcases Int.le_total x.tilt.lo (leastP v y.2.lo) with hl | hl
      · exact ⟨w, List.mem_append_left _ hw, by simp only; omega⟩
      · exact ⟨y, by simp, by simp only; omega⟩
    · obtain ⟨w, hw, ew⟩ := h.hiAt hn
      rcases Int.le_total x.tilt.hi (mostP v y.2.hi) with hl | hl
      · exact ⟨y, by simp, by simp only; omega⟩
      · exact ⟨w, List.mem_append_left _ hw, by simp only; omega⟩
    · obtain ⟨w, hw, ew⟩ := h.zlo hn
      exact ⟨w, List.mem_append_left _ hw, ew⟩
  · have hn : ys = [] := by
      rcases List.eq_nil_or_concat ys with h0 | ⟨_, _, h0⟩
      · exact h0
      · exact absurd (h.is.2 (by rw [h0]; simp)) hi
    subst hn
    have e : tiltStep v x y = ⟨⟨leastP v y.2.lo, mostP v y.2.hi⟩, ⟨y.1, y.1⟩, true⟩ := by unfold tiltStep; rw [if_neg hi]
    rw [e]
    exact ⟨by simp, by simp, by simp, by simp, by simp, by simp, by simp⟩
theorem has_fold (v : Vial) : ∀ ys : List (Int × Span), Has v ys (tiltsOf v ys) := by
  refine snoc_ind ⟨by simp [tiltsOf], by simp, by simp, by simp, by simp, by simp, by simp⟩ fun ys y ih => ?_
  unfold tiltsOf at ih ⊢
  rw [List.foldl_append]
  exact has_snoc ih y
theorem tilts_is {v : Vial} {l : List Mk} : (tilts v l).is = true ↔ ∃ z, feas v l z := by
  have h := has_fold v (zerosOf v l (allZ v))
  rw [show tilts v l = tiltsOf v (zerosOf v l (allZ v)) from rfl, h.is]
  constructor
  · intro hn
    obtain ⟨y, hy⟩ := List.exists_mem_of_ne_nil _ hn
    exact ⟨y.1, (zerosOf_feas.1 hy).2⟩
  · rintro ⟨z, hz⟩ hn
    have : (z, withinS v.wr l z) ∈ zerosOf v l (allZ v) := zerosOf_feas.2 ⟨rfl, hz⟩
    rw [hn] at this; cases this
theorem tilts_lo {v : Vial} {l : List Mk} {z : Int} (h : feas v l z) : (tilts v l).tilt.lo ≤ leastP v (withinS v.wr l z).lo :=
  (has_fold v (zerosOf v l (allZ v))).lo (z, withinS v.wr l z) (zerosOf_feas.2 ⟨rfl, h⟩)
theorem tilts_hi {v : Vial} {l : List Mk} {z : Int} (h : feas v l z) : mostP v (withinS v.wr l z).hi ≤ (tilts v l).tilt.hi :=
  (has_fold v (zerosOf v l (allZ v))).hi (z, withinS v.wr l z) (zerosOf_feas.2 ⟨rfl, h⟩)
theorem tilts_at {v : Vial} {l : List Mk} (h : (tilts v l).is = true) : (∃ z, feas v l z ∧ (tilts v l).tilt.lo = leastP v (withinS v.wr l z).lo) ∧ (∃ z, feas v l z ∧ (tilts v l).tilt.hi = mostP v (withinS v.wr l z).hi) ∧ feas v l (tilts v l).zero.lo ∧ feas v l (tilts v l).zero.hi := by
  have hf := has_fold v (zerosOf v l (allZ v))
  have hn := hf.is.1 h
  obtain ⟨y1, m1, e1⟩ := hf.loAt hn
  obtain ⟨y2, m2, e2⟩ := hf.hiAt hn
  obtain ⟨y3, m3, e3⟩ := hf.zlo hn
  obtain ⟨y4, m4, e4⟩ := hf.zhi hn
  refine ⟨⟨y1.1, (zerosOf_feas.1 m1).2, ?_⟩, ⟨y2.1, (zerosOf_feas.1 m2).2, ?_⟩, ?_, ?_⟩
  · rw [← (zerosOf_feas.1 m1).1]; exact e1
  · rw [← (zerosOf_feas.1 m2).1]; exact e2
  · show feas v l (tiltsOf v _).zero.lo; rw [e3]; exact (zerosOf_feas.1 m3).2
  · show feas v l (tiltsOf v _).zero.hi; rw [e4]; exact (zerosOf_feas.1 m4).2
theorem allZ_sorted (v : Vial) : (allZ v).Pairwise (· < ·) := by
  unfold allZ range
  rw [List.pairwise_map]
  exact List.Pairwise.imp (fun h => by omega) List.pairwise_lt_range
theorem zerosOf_sorted (v : Vial) (l : List Mk) : (zerosOf v l (allZ v)).Pairwise (fun a b => a.1 < b.1) := by
  unfold zerosOf
  refine List.Pairwise.filterMap _ ?_ (allZ_sorted v)
  intro a b hab x hx y hy
  simp only [Option.mem_def] at hx hy
  split at hx <;> cases hx
  split at hy <;> cases hy
  exact hab
theorem ord_fold (v : Vial) : ∀ ys : List (Int × Span), ys.Pairwise (fun a b => a.1 < b.1) → ∀ y ∈ ys, (tiltsOf v ys).zero.lo ≤ y.1 ∧ y.1 ≤ (tiltsOf v ys).zero.hi := by
  refine snoc_ind (fun _ y h => by cases h) fun ys x ih => ?_
  · intro hp
    rw [List.pairwise_append] at hp
    obtain ⟨h1, _, h3⟩ := hp
    have ih := ih h1
    have hlast : ∀ w ∈ ys, w.1 < x.1 := fun w hw => h3 w hw x (by simp)
    have hf := has_fold v ys
    have e : tiltsOf v (ys ++ [x]) = tiltStep v (tiltsOf v ys) x := by unfold tiltsOf; rw [List.foldl_append]; rfl
    rw [e]
    by_cases hi : (tiltsOf v ys).is = true
    · have hn := hf.is.1 hi
      obtain ⟨w0, hw0, _⟩ := hf.zlo hn
      have h0 := ih w0 hw0
      have h0' := hlast w0 hw0
      unfold tiltStep
      rw [if_pos hi]
      intro y hy
      rcases List.mem_append.1 hy with hy | hy
      · have := ih y hy; have := hlast y hy; simp only; omega
      · cases List.mem_singleton.1 hy; simp only; omega
    · have hn : ys = [] := by
        rcases List.eq_nil_or_concat ys with h0 | ⟨_, _, h0⟩
        · exact h0
        · exact absurd (hf.is.2 (by rw [h0]; simp)) hi
      subst hn
      unfold tiltStep
      rw [if_neg hi]
      intro y hy
      cases List.mem_singleton.1 hy
      simp
theorem tilts_zero {v : Vial} {l : List Mk} {z : Int} (h : feas v l z) : (tilts v l).zero.lo ≤ z ∧ z ≤ (tilts v l).zero.hi :=
  ord_fold v _ (zerosOf_sorted v l) (z, withinS v.wr l z) (zerosOf_feas.2 ⟨rfl, h⟩)
/-- THE THEOREM OF THE BUBBLE, plainly. -/
theorem bubble {v : Vial} (hv : v.ok = true) {l : List Mk} (hm : mksOk l = true) (h1 : 1 ≤ l.length) {tv tz tt : Int} (h2 : v.v0 ≤ tv) (h3 : tv ≤ v.v1) (h4 : v.z0 ≤ tz) (h5 : tz ≤ v.z1) (hc : canB v l tv tz tt = true) :
    (tilts v l).is = true ∧ (tilts v l).tilt.lo ≤ tt ∧ tt ≤ (tilts v l).tilt.hi ∧ (tilts v l).zero.lo ≤ tz ∧ tz ≤ (tilts v l).zero.hi := by
  rw [← within_can hv hm h1 h2 h3 h4 h5, Bool.and_eq_true, decide_eq_true_eq, inB_iff] at hc
  have hf : feas v l tz := ⟨⟨h4, h5⟩, hc.1⟩
  have hv' := Vial.ok_iff.1 hv
  have a := tilts_lo hf
  have b := tilts_hi hf
  have c := tilts_zero hf
  have lo1 : leastP v (withinS v.wr l tz).lo ≤ (withinS v.wr l tz).lo * tv := by
    unfold leastP
    rcases Int.le_total 0 (withinS v.wr l tz).lo with h | h
    · have := Int.mul_le_mul_of_nonneg_left h2 h; omega
    · have := Int.mul_le_mul_of_nonpos_left h h3; omega
  have hi1 : (withinS v.wr l tz).hi * tv ≤ mostP v (withinS v.wr l tz).hi := by
    unfold mostP
    rcases Int.le_total 0 (withinS v.wr l tz).hi with h | h
    · have := Int.mul_le_mul_of_nonneg_left h3 h; omega
    · have := Int.mul_le_mul_of_nonpos_left h h2; omega
  exact ⟨tilts_is.2 ⟨tz, hf⟩, by omega, by omega, c.1, c.2⟩
end Go.Oc.Lv
