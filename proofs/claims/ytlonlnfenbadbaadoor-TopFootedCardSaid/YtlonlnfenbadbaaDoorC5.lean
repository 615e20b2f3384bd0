/- What the claim leans on, text 5. -/
import Derived.Test.YtlonlnfenbadbaaDoorC4
set_option linter.unusedSimpArgs false
set_option linter.unusedVariables false

/- Part Lx. -/
namespace Go.Oc.Lv
end Go.Oc.Lv
namespace Go.Proofs.YtlonlnfenbadbaaDoor.Lv
end Go.Proofs.YtlonlnfenbadbaaDoor.Lv
namespace Go.Proofs.YtlonlnfenbadbaaDoor.Lv
open Go.RowKit Go.Pm Go.Oc Go.Oc.Lv
set_option maxRecDepth 100000
set_option linter.unusedVariables false
set_option maxHeartbeats 1000000

theorem lEnds_c (a : Int) (l : List Int) (full : Bool) (hl : (l.length : Int) ≤ 1000000) : PCalls Tryd.prog 123 [.int .i64 a, .sl (ints l) l.length full] (.tup [.int .i64 (l.foldl min a), .int .i64 (l.foldl max a)]) := by
 refine pcalls_by Tryd.mixes noSpec_ok (fn := Tryd.f123) Tryd.func123 rfl (by kernel_rfl) (by show 2 ≤ _; decide) ?_
 simp (decide := true) (maxSteps := 4000000) only [go_sem, Nat.reduceAdd, Nat.reduceSub, Nat.reduceMul, Nat.reduceDiv, Nat.reduceMod, Nat.reduceLT, Nat.reduceLeDiff, Nat.reduceEqDiff, Nat.reduceBEq, Nat.reduceBNe, Nat.reduceGT, Int.reduceAdd, Int.reduceSub, Int.reduceMul, Int.reduceNeg, Int.reduceLT, Int.reduceLE, Int.reduceEq, Int.reduceNe, Int.reduceBEq, Int.reduceBNe, Int.reduceToNat, Int.reduceGT, Int.reduceGE, ↓reduceIte, decide_true, decide_false, Tryd.f123]
 refine pwpC_loop (A := { k : Nat // k ≤ l.length }) (fun k => { env := [(12, .t (.int .i64 k.1)), (11, .t (.int .i64 l.length)), (10, .t (.sl (ints l) l.length full)), (4, .t (.int .i64 ((l.take k.1).foldl min a))), (5, .t (.int .i64 ((l.take k.1).foldl max a)))], heap := [] }) (fun k => l.length - k.1) ⟨0, by omega⟩ ?_ (fun k => by rfl) fun ⟨k, hk⟩ => ?_
 ·simp (decide := true) (maxSteps := 4000000) only [go_sem, Nat.reduceAdd, Nat.reduceSub, Nat.reduceMul, Nat.reduceDiv, Nat.reduceMod, Nat.reduceLT, Nat.reduceLeDiff, Nat.reduceEqDiff, Nat.reduceBEq, Nat.reduceBNe, Nat.reduceGT, Int.reduceAdd, Int.reduceSub, Int.reduceMul, Int.reduceNeg, Int.reduceLT, Int.reduceLE, Int.reduceEq, Int.reduceNe, Int.reduceBEq, Int.reduceBNe, Int.reduceToNat, Int.reduceGT, Int.reduceGE, ↓reduceIte, decide_true, decide_false]
 ·by_cases hlt : (k : Int) < l.length
  ·obtain ⟨x, hx⟩ := get_lt hlt
   have hk1 : IntKind.i64.wrap (k + 1) = ((k + 1 : Nat) : Int) := by rw [wrap_in (by omega) (by omega)]; omega
   simp (decide := true) (maxSteps := 4000000) only [go_sem, Nat.reduceAdd, Nat.reduceSub, Nat.reduceMul, Nat.reduceDiv, Nat.reduceMod, Nat.reduceLT, Nat.reduceLeDiff, Nat.reduceEqDiff, Nat.reduceBEq, Nat.reduceBNe, Nat.reduceGT, Int.reduceAdd, Int.reduceSub, Int.reduceMul, Int.reduceNeg, Int.reduceLT, Int.reduceLE, Int.reduceEq, Int.reduceNe, Int.reduceBEq, Int.reduceBNe, Int.reduceToNat, Int.reduceGT, Int.reduceGE, ↓reduceIte, decide_true, decide_false, hlt, ints_at hx]
   refine ⟨⟨k + 1, by omega⟩, ?_⟩
   simp (decide := true) (maxSteps := 4000000) only [go_sem, Nat.reduceAdd, Nat.reduceSub, Nat.reduceMul, Nat.reduceDiv, Nat.reduceMod, Nat.reduceLT, Nat.reduceLeDiff, Nat.reduceEqDiff, Nat.reduceBEq, Nat.reduceBNe, Nat.reduceGT, Int.reduceAdd, Int.reduceSub, Int.reduceMul, Int.reduceNeg, Int.reduceLT, Int.reduceLE, Int.reduceEq, Int.reduceNe, Int.reduceBEq, Int.reduceBNe, Int.reduceToNat, Int.reduceGT, Int.reduceGE, ↓reduceIte, decide_true, decide_false, hk1, take_snoc hx, List.foldl_append]
   omega
  ·have hkl : k = l.length := by omega
   subst hkl
   simp (decide := true) (maxSteps := 4000000) only [go_sem, Nat.reduceAdd, Nat.reduceSub, Nat.reduceMul, Nat.reduceDiv, Nat.reduceMod, Nat.reduceLT, Nat.reduceLeDiff, Nat.reduceEqDiff, Nat.reduceBEq, Nat.reduceBNe, Nat.reduceGT, Int.reduceAdd, Int.reduceSub, Int.reduceMul, Int.reduceNeg, Int.reduceLT, Int.reduceLE, Int.reduceEq, Int.reduceNe, Int.reduceBEq, Int.reduceBNe, Int.reduceToNat, Int.reduceGT, Int.reduceGE, ↓reduceIte, decide_true, decide_false, hlt, List.take_length]
def spF : Pm.Spec := { noSpec with fz := fun _ => true }
theorem spF_ok : SpecOk Tryd.prog spF := ⟨fun f xs r h => (by cases h), fun f xs hl v hl' h => (by cases h), fun Y f xs hl v hl' h => (by cases h)⟩
@[go_sem] theorem spF_p (f : FuncId) (xs : List TV) : spF.p f xs = Pm.Spec.p ({ noSpec with fz := fun _ => true }) f xs := rfl
@[go_sem] theorem spF_h (f : FuncId) (ps : List PV) (hl : List PO) : spF.h f ps hl = Pm.Spec.h ({ noSpec with fz := fun _ => true }) f ps hl := rfl
@[go_sem] theorem spF_y (Y : Pm.YS) (f : FuncId) (ps : List PV) (hl : List PO) : spF.y Y f ps hl = Pm.Spec.y ({ noSpec with fz := fun _ => true }) Y f ps hl := rfl
@[go_sem] theorem spF_fz (f : FuncId) : spF.fz f = Pm.Spec.fz ({ noSpec with fz := fun _ => true }) f := rfl
@[go_sem] theorem spF_fr (f : FuncId) : spF.fr f = Pm.Spec.fr ({ noSpec with fz := fun _ => true }) f := rfl
@[go_sem] theorem spF_yf (f : FuncId) : spF.yf f = Pm.Spec.yf ({ noSpec with fz := fun _ => true }) f := rfl
@[go_sem] theorem spF_gd : spF.gd = Pm.Spec.gd ({ noSpec with fz := fun _ => true }) := rfl
@[go_sem] theorem spF_mu (t : TypeId) : spF.mu t = Pm.Spec.mu ({ noSpec with fz := fun _ => true }) t := rfl
@[go_sem] theorem spF_nf (t : TypeId) : spF.nf t = Pm.Spec.nf ({ noSpec with fz := fun _ => true }) t := rfl
theorem lZeros_c (v : Vial) (s : TV) (hs : ∃ cs n full, s = .sl cs n full) : PCalls Tryd.prog 122 [v.t, s] (.fn 155 [] [.cptr v.cs, .cptr [s]]) := by
 refine pcalls_by Tryd.mixes spF_ok (fn := Tryd.f122) Tryd.func122 rfl (by kernel_rfl) (by show 2 ≤ _; decide) ?_
 obtain ⟨cs, n, full, rfl⟩ := hs
 simp (decide := true) (maxSteps := 4000000) only [go_sem, Nat.reduceAdd, Nat.reduceSub, Nat.reduceMul, Nat.reduceDiv, Nat.reduceMod, Nat.reduceLT, Nat.reduceLeDiff, Nat.reduceEqDiff, Nat.reduceBEq, Nat.reduceBNe, Nat.reduceGT, Int.reduceAdd, Int.reduceSub, Int.reduceMul, Int.reduceNeg, Int.reduceLT, Int.reduceLE, Int.reduceEq, Int.reduceNe, Int.reduceBEq, Int.reduceBNe, Int.reduceToNat, Int.reduceGT, Int.reduceGE, ↓reduceIte, decide_true, decide_false, Tryd.f122, Vial.t, Vial.cs]
end Go.Proofs.YtlonlnfenbadbaaDoor.Lv

/- Part Ly. -/
namespace Go.Oc.Lv
end Go.Oc.Lv
namespace Go.Proofs.YtlonlnfenbadbaaDoor.Lv
end Go.Proofs.YtlonlnfenbadbaaDoor.Lv
namespace Go.Oc.Lv
open Go Go.Pm

theorem fold_le {w z : Int} : ∀ (l : List Mk) (s : Span), s.lo ≤ (l.foldl (inS w z) s).lo ∧ (l.foldl (inS w z) s).hi ≤ s.hi
 | [], s => ⟨Int.le_refl _, Int.le_refl _⟩
 | m :: l, s => by
  have := fold_le (w := w) (z := z) l (inS w z s m)
  simp only [List.foldl_cons]
  have h1 : s.lo ≤ (inS w z s m).lo := by simp only [inS]; omega
  have h2 : (inS w z s m).hi ≤ s.hi := by simp only [inS]; omega
  omega
theorem withinS_take {w z : Int} (l : List Mk) (i : Nat) : (withinS w (l.take i) z).lo ≤ (withinS w l z).lo ∧ (withinS w l z).hi ≤ (withinS w (l.take i) z).hi := by
 have := fold_le (w := w) (z := z) (l.drop i) (withinS w (l.take i) z)
 have e : withinS w l z = (l.drop i).foldl (inS w z) (withinS w (l.take i) z) := by
  unfold withinS; rw [← List.foldl_append, List.take_append_drop]
 rw [e]; exact this
theorem withinS_snoc {w z : Int} {l : List Mk} {i : Nat} {x : Mk} (h : l[i]? = some x) : withinS w (l.take (i + 1)) z = inS w z (withinS w (l.take i) z) x := by
 unfold withinS; rw [take_snoc h, List.foldl_append]; rfl
def cz (v : Vial) (l : List Mk) (k : Nat) : Nat := (zerosOf v l (range v.z0 k)).length
theorem cz_zero (v : Vial) (l : List Mk) : cz v l 0 = 0 := rfl
theorem cz_out {v : Vial} {l : List Mk} {k : Nat} (h : ¬ (withinS v.wr l (v.z0 + k)).lo ≤ (withinS v.wr l (v.z0 + k)).hi) : cz v l (k + 1) = cz v l k := by
 unfold cz; rw [range_succ, zerosOf_snoc, foundZ, if_neg h, List.append_nil]
theorem cz_in {v : Vial} {l : List Mk} {k : Nat} (h : (withinS v.wr l (v.z0 + k)).lo ≤ (withinS v.wr l (v.z0 + k)).hi) : cz v l (k + 1) = cz v l k + 1 := by
 unfold cz; rw [range_succ, zerosOf_snoc, foundZ, if_pos h]; simp
theorem range_take (a : Int) (n k : Nat) (h : k ≤ n) : ∃ r, range a n = range a k ++ r := by
 refine ⟨(range a n).drop k, ?_⟩
 have e : range a k = (range a n).take k := by
  unfold range; rw [← List.map_take, List.take_range, Nat.min_eq_left h]
 rw [e, List.take_append_drop]
theorem zerosOf_append (v : Vial) (l : List Mk) (a b : List Int) : zerosOf v l (a ++ b) = zerosOf v l a ++ zerosOf v l b := by
 unfold zerosOf; rw [List.filterMap_append]
theorem zerosOf_at {v : Vial} {l : List Mk} {k : Nat} (h : (withinS v.wr l (v.z0 + k)).lo ≤ (withinS v.wr l (v.z0 + k)).hi) (hk : k < (v.z1 - v.z0 + 1).toNat) :
  (zerosOf v l (allZ v))[cz v l k]? = some (v.z0 + k, withinS v.wr l (v.z0 + k)) := by
 obtain ⟨r, hr⟩ := range_take v.z0 (v.z1 - v.z0 + 1).toNat (k + 1) (by omega)
 unfold allZ
 rw [hr, range_succ, zerosOf_append, zerosOf_snoc, foundZ, if_pos h, List.append_assoc]
 unfold cz
 simp
theorem cz_le {v : Vial} {l : List Mk} {k : Nat} (hk : k ≤ (v.z1 - v.z0 + 1).toNat) : cz v l k ≤ (zerosOf v l (allZ v)).length := by
 obtain ⟨r, hr⟩ := range_take v.z0 (v.z1 - v.z0 + 1).toNat k hk
 unfold allZ cz
 rw [hr, zerosOf_append]; simp
theorem cz_all (v : Vial) (l : List Mk) : cz v l (v.z1 - v.z0 + 1).toNat = (zerosOf v l (allZ v)).length := rfl
def pS (w z : Int) (l : List Mk) (i : Nat) : Span := if i = 0 then ⟨0, 0⟩ else withinS w (l.take i) z
theorem pS_one {w z : Int} {l : List Mk} {x : Mk} (hw : 0 ≤ w ∧ w ≤ 8) (hz : 0 ≤ z ∧ z ≤ 400) (hx : 0 ≤ x.at' ∧ x.at' ≤ 400) (h : l[0]? = some x) : withinS w (l.take 1) z = ⟨outM x z - w, outM x z + w⟩ := by
 rw [withinS_snoc h]
 simp only [List.take_zero, withinS, List.foldl_nil, inS, Span.mk.injEq]
 simp only [outM]
 split <;> omega
end Go.Oc.Lv

/- Part Lz. -/
namespace Go.Oc.Lv
end Go.Oc.Lv
namespace Go.Proofs.YtlonlnfenbadbaaDoor.Lv
end Go.Proofs.YtlonlnfenbadbaaDoor.Lv
namespace Go.Proofs.YtlonlnfenbadbaaDoor.Lv
open Go.RowKit Go.Pm Go.Oc Go.Oc.Lv
set_option maxRecDepth 100000
set_option linter.unusedVariables false
set_option maxHeartbeats 1000000

def zs (v : Vial) (l : List Mk) : List (List TV) := (zerosOf v l (allZ v)).map fun y => [.int .i64 y.1, y.2.t]
noncomputable def mth_boundsL := PLift.up (mth_of (P := Tryd.prog) (t := 210) (f := 207) (l := nameAt Tryd.f155 0) rfl (by kernel_rfl))
theorem mth_bounds : type_of% mth_boundsL.down := mth_boundsL.down
attribute [go_sem] mth_bounds
theorem zs_at {v : Vial} {l : List Mk} {k : Nat} (h : (withinS v.wr l (v.z0 + k)).lo ≤ (withinS v.wr l (v.z0 + k)).hi) (hk : k < (v.z1 - v.z0 + 1).toNat) :
  (zs v l)[cz v l k]? = some [.int .i64 (v.z0 + k), .agg [.int .i64 (withinS v.wr l (v.z0 + k)).lo, .int .i64 (withinS v.wr l (v.z0 + k)).hi]] := by
 unfold zs; rw [List.getElem?_map, zerosOf_at h hk]; rfl
theorem lZeros1_c (v : Vial) (l : List Mk) (full : Bool) (h1 : 1 ≤ l.length) (hv : v.ok = true) (hm : mksOk l = true) (hl : l.length ≤ 100) :
  Iter Tryd.prog 155 [] [.cptr v.cs, .cptr [.sl (l.flatMap Mk.als) l.length full]] (zs v l) := by
 refine iter_by Tryd.mixes spL3_ok (fn := Tryd.f155) Tryd.func155 rfl (by kernel_rfl) rfl (by show 3 ≤ _; decide) ?_
 intro y m stop hm1 hm2 hm3
 have hv' := Vial.ok_iff.1 hv
 have hzl : (zs v l).length = (zerosOf v l (allZ v)).length := by simp [zs]
 simp (decide := true) (maxSteps := 4000000) only [go_sem, Nat.reduceAdd, Nat.reduceSub, Nat.reduceMul, Nat.reduceDiv, Nat.reduceMod, Nat.reduceLT, Nat.reduceLeDiff, Nat.reduceEqDiff, Nat.reduceBEq, Nat.reduceBNe, Nat.reduceGT, Int.reduceAdd, Int.reduceSub, Int.reduceMul, Int.reduceNeg, Int.reduceLT, Int.reduceLE, Int.reduceEq, Int.reduceNe, Int.reduceBEq, Int.reduceBNe, Int.reduceToNat, Int.reduceGT, Int.reduceGE, ↓reduceIte, decide_true, decide_false, Tryd.f155, Vial.cs]
 refine pwpC_loop (A := { k : Nat // k ≤ (v.z1 - v.z0 + 1).toNat ∧ (stop = true → cz v l k < m) }) (fun k => { env := [(4, .t (.int .i64 (v.z0 + k.1))), (0, .yld y), (1, .t (.cptr v.cs)), (2, .t (.cptr [.sl (l.flatMap Mk.als) l.length full]))], heap := [.cnt (cz v l k.1)] }) (fun k => (v.z1 - v.z0 + 1).toNat - k.1) ⟨0, by omega, fun h => by rw [cz_zero]; exact hm3 h⟩ ?_ (fun k => by rfl) fun ⟨k, hk, hst⟩ => ?_
 ·simp (decide := true) (maxSteps := 4000000) only [go_sem, Nat.reduceAdd, Nat.reduceSub, Nat.reduceMul, Nat.reduceDiv, Nat.reduceMod, Nat.reduceLT, Nat.reduceLeDiff, Nat.reduceEqDiff, Nat.reduceBEq, Nat.reduceBNe, Nat.reduceGT, Int.reduceAdd, Int.reduceSub, Int.reduceMul, Int.reduceNeg, Int.reduceLT, Int.reduceLE, Int.reduceEq, Int.reduceNe, Int.reduceBEq, Int.reduceBNe, Int.reduceToNat, Int.reduceGT, Int.reduceGE, ↓reduceIte, decide_true, decide_false, Vial.cs, cz_zero]
  omega
 ·by_cases hlt : v.z0 + k ≤ v.z1
  ·have hz : 0 ≤ v.z0 + (k : Int) ∧ v.z0 + (k : Int) ≤ 400 := by omega
   have hw : 0 ≤ v.wr ∧ v.wr ≤ 8 := hv'.2.2.2.2
   have hkN : k < (v.z1 - v.z0 + 1).toNat := by omega
   have hz1 : IntKind.i64.wrap (v.z0 + k + 1) = v.z0 + ((k + 1 : Nat) : Int) := by rw [wrap_in (by omega) (by omega)]; omega
   simp (decide := true) (maxSteps := 4000000) only [go_sem, Nat.reduceAdd, Nat.reduceSub, Nat.reduceMul, Nat.reduceDiv, Nat.reduceMod, Nat.reduceLT, Nat.reduceLeDiff, Nat.reduceEqDiff, Nat.reduceBEq, Nat.reduceBNe, Nat.reduceGT, Int.reduceAdd, Int.reduceSub, Int.reduceMul, Int.reduceNeg, Int.reduceLT, Int.reduceLE, Int.reduceEq, Int.reduceNe, Int.reduceBEq, Int.reduceBNe, Int.reduceToNat, Int.reduceGT, Int.reduceGE, ↓reduceIte, decide_true, decide_false, hlt, Vial.cs]
   refine pwpC_loop (A := { i : Nat // i ≤ l.length ∧ (0 < i → (pS v.wr (v.z0 + k) l i).lo ≤ (pS v.wr (v.z0 + k) l i).hi) }) (fun i => { env := [(23, .t (.int .i64 i.1)), (22, .t (.int .i64 l.length)), (21, .t (.sl (l.flatMap Mk.als) l.length full)), (5, .ptr 1 0), (4, .t (.int .i64 (v.z0 + k))), (0, .yld y), (1, .t (.cptr v.cs)), (2, .t (.cptr [.sl (l.flatMap Mk.als) l.length full]))], heap := [.cnt (cz v l k), .box [.t (.int .i64 (pS v.wr (v.z0 + k) l i.1).lo), .t (.int .i64 (pS v.wr (v.z0 + k) l i.1).hi)]] }) (fun i => l.length - i.1) ⟨0, by omega, by omega⟩ ?_ (fun _ => by rfl) fun ⟨i, hi, hle⟩ => ?_
   ·simp (decide := true) (maxSteps := 4000000) only [go_sem, Nat.reduceAdd, Nat.reduceSub, Nat.reduceMul, Nat.reduceDiv, Nat.reduceMod, Nat.reduceLT, Nat.reduceLeDiff, Nat.reduceEqDiff, Nat.reduceBEq, Nat.reduceBNe, Nat.reduceGT, Int.reduceAdd, Int.reduceSub, Int.reduceMul, Int.reduceNeg, Int.reduceLT, Int.reduceLE, Int.reduceEq, Int.reduceNe, Int.reduceBEq, Int.reduceBNe, Int.reduceToNat, Int.reduceGT, Int.reduceGE, ↓reduceIte, decide_true, decide_false, Vial.cs, pS]
   ·by_cases hil : (i : Int) < l.length
    ·obtain ⟨x, hx⟩ := get_lt hil
     have hd := flat_at Mk.als (n := 1) (fun _ => rfl) hx
     have hxm : inB x.at' 0 400 = true := List.all_eq_true.1 hm x (List.mem_of_getElem? hx)
     have hxm' := inB_iff.1 hxm
     have hi1 : IntKind.i64.wrap (i + 1) = ((i + 1 : Nat) : Int) := by rw [wrap_in (by omega) (by omega)]; omega
     have hn1 : pS v.wr (v.z0 + k) l (i + 1) = withinS v.wr (l.take (i + 1)) (v.z0 + k) := by unfold pS; rw [if_neg (by omega)]
     have htk := withinS_take (w := v.wr) (z := v.z0 + k) l (i + 1)
     rcases Nat.eq_zero_or_pos i with h0 | h0
     ·subst h0
      have hw1 := pS_one hw hz hxm' hx
      rw [Nat.zero_add] at hn1 htk
      rw [hw1] at hn1 htk
      simp only at htk
      obtain ⟨a, tu⟩ := x
      have hgt : ∀ n : Int, ¬ n - v.wr > n + v.wr := fun n => by omega
      have hd1 : l.length - 1 < l.length := by omega
      cases tu <;> simp only [outM, if_true, if_false, Bool.false_eq_true] at hn1 <;> simp (decide := true) (maxSteps := 4000000) only [go_sem, Nat.reduceAdd, Nat.reduceSub, Nat.reduceMul, Nat.reduceDiv, Nat.reduceMod, Nat.reduceLT, Nat.reduceLeDiff, Nat.reduceEqDiff, Nat.reduceBEq, Nat.reduceBNe, Nat.reduceGT, Int.reduceAdd, Int.reduceSub, Int.reduceMul, Int.reduceNeg, Int.reduceLT, Int.reduceLE, Int.reduceEq, Int.reduceNe, Int.reduceBEq, Int.reduceBNe, Int.reduceToNat, Int.reduceGT, Int.reduceGE, ↓reduceIte, decide_true, decide_false, hil, hd, Mk.als, Mk.al, Vial.cs, hxm, hz, hw, hgt]
      all_goals refine ⟨⟨1, by omega, fun _ => ?_⟩, ?_⟩
      all_goals first | (rw [hn1]; simp only; omega) | (simp (decide := true) (maxSteps := 4000000) only [go_sem, Nat.reduceAdd, Nat.reduceSub, Nat.reduceMul, Nat.reduceDiv, Nat.reduceMod, Nat.reduceLT, Nat.reduceLeDiff, Nat.reduceEqDiff, Nat.reduceBEq, Nat.reduceBNe, Nat.reduceGT, Int.reduceAdd, Int.reduceSub, Int.reduceMul, Int.reduceNeg, Int.reduceLT, Int.reduceLE, Int.reduceEq, Int.reduceNe, Int.reduceBEq, Int.reduceBNe, Int.reduceToNat, Int.reduceGT, Int.reduceGE, ↓reduceIte, decide_true, decide_false, hn1, hd1])
     ·have hi0 : (i : Int) > 0 := by omega
      have hs := withinS_snoc (w := v.wr) (z := v.z0 + k) hx
      have hpi : pS v.wr (v.z0 + k) l i = withinS v.wr (l.take i) (v.z0 + k) := by unfold pS; rw [if_neg (by omega)]
      rw [hs] at hn1 htk
      have hd1 : l.length - (i + 1) < l.length - i := by omega
      by_cases hgt : (inS v.wr (v.z0 + k) (withinS v.wr (l.take i) (v.z0 + k)) x).lo > (inS v.wr (v.z0 + k) (withinS v.wr (l.take i) (v.z0 + k)) x).hi
      ·have hcz : cz v l (k + 1) = cz v l k := cz_out (by omega)
       obtain ⟨a, tu⟩ := x
       cases tu <;> simp only [inS, outM, if_true, if_false, Bool.false_eq_true] at hgt <;> simp (decide := true) (maxSteps := 4000000) only [go_sem, Nat.reduceAdd, Nat.reduceSub, Nat.reduceMul, Nat.reduceDiv, Nat.reduceMod, Nat.reduceLT, Nat.reduceLeDiff, Nat.reduceEqDiff, Nat.reduceBEq, Nat.reduceBNe, Nat.reduceGT, Int.reduceAdd, Int.reduceSub, Int.reduceMul, Int.reduceNeg, Int.reduceLT, Int.reduceLE, Int.reduceEq, Int.reduceNe, Int.reduceBEq, Int.reduceBNe, Int.reduceToNat, Int.reduceGT, Int.reduceGE, ↓reduceIte, decide_true, decide_false, hil, hi0, hd, Mk.als, Mk.al, Vial.cs, hxm, hz, hw, hpi, hgt]
       all_goals refine ⟨⟨k + 1, by omega, fun h => by rw [hcz]; exact hst h⟩, ?_⟩
       all_goals simp (decide := true) (maxSteps := 4000000) only [go_sem, Nat.reduceAdd, Nat.reduceSub, Nat.reduceMul, Nat.reduceDiv, Nat.reduceMod, Nat.reduceLT, Nat.reduceLeDiff, Nat.reduceEqDiff, Nat.reduceBEq, Nat.reduceBNe, Nat.reduceGT, Int.reduceAdd, Int.reduceSub, Int.reduceMul, Int.reduceNeg, Int.reduceLT, Int.reduceLE, Int.reduceEq, Int.reduceNe, Int.reduceBEq, Int.reduceBNe, Int.reduceToNat, Int.reduceGT, Int.reduceGE, ↓reduceIte, decide_true, decide_false, hz1, hcz, Vial.cs]
       all_goals omega
      ·obtain ⟨a, tu⟩ := x
       have hle' : (inS v.wr (v.z0 + k) (withinS v.wr (l.take i) (v.z0 + k)) ⟨a, tu⟩).lo ≤ (inS v.wr (v.z0 + k) (withinS v.wr (l.take i) (v.z0 + k)) ⟨a, tu⟩).hi := by omega
       cases tu <;> simp only [inS, outM, if_true, if_false, Bool.false_eq_true] at hgt <;> simp (decide := true) (maxSteps := 4000000) only [go_sem, Nat.reduceAdd, Nat.reduceSub, Nat.reduceMul, Nat.reduceDiv, Nat.reduceMod, Nat.reduceLT, Nat.reduceLeDiff, Nat.reduceEqDiff, Nat.reduceBEq, Nat.reduceBNe, Nat.reduceGT, Int.reduceAdd, Int.reduceSub, Int.reduceMul, Int.reduceNeg, Int.reduceLT, Int.reduceLE, Int.reduceEq, Int.reduceNe, Int.reduceBEq, Int.reduceBNe, Int.reduceToNat, Int.reduceGT, Int.reduceGE, ↓reduceIte, decide_true, decide_false, hil, hi0, hd, Mk.als, Mk.al, Vial.cs, hxm, hz, hw, hpi, hgt]
       all_goals refine ⟨⟨i + 1, by omega, fun _ => by rw [hn1]; exact hle'⟩, ?_⟩
       all_goals simp (decide := true) (maxSteps := 4000000) only [go_sem, Nat.reduceAdd, Nat.reduceSub, Nat.reduceMul, Nat.reduceDiv, Nat.reduceMod, Nat.reduceLT, Nat.reduceLeDiff, Nat.reduceEqDiff, Nat.reduceBEq, Nat.reduceBNe, Nat.reduceGT, Int.reduceAdd, Int.reduceSub, Int.reduceMul, Int.reduceNeg, Int.reduceLT, Int.reduceLE, Int.reduceEq, Int.reduceNe, Int.reduceBEq, Int.reduceBNe, Int.reduceToNat, Int.reduceGT, Int.reduceGE, ↓reduceIte, decide_true, decide_false, hi1, hn1, inS, outM, hd1, Vial.cs]
    ·have hil' : i = l.length := by omega
     subst hil'
     have hpl : pS v.wr (v.z0 + k) l l.length = withinS v.wr l (v.z0 + k) := by unfold pS; rw [if_neg (by omega), List.take_length]
     have hin := hle (by omega)
     rw [hpl] at hin
     have hcz := cz_in hin
     have hat := zs_at hin hkN
     have hc1 := cz_le (v := v) (l := l) (k := k + 1) (by omega)
     have hcm : cz v l k < m := by
      cases stop with
      | true => exact hst rfl
      | false => rw [hm2 rfl, hzl]; omega
     by_cases hs : (stop && cz v l k + 1 == m) = true
     ·have hs' := hs
      simp only [Bool.and_eq_true, beq_iff_eq] at hs'
      simp (decide := true) (maxSteps := 4000000) only [go_sem, Nat.reduceAdd, Nat.reduceSub, Nat.reduceMul, Nat.reduceDiv, Nat.reduceMod, Nat.reduceLT, Nat.reduceLeDiff, Nat.reduceEqDiff, Nat.reduceBEq, Nat.reduceBNe, Nat.reduceGT, Int.reduceAdd, Int.reduceSub, Int.reduceMul, Int.reduceNeg, Int.reduceLT, Int.reduceLE, Int.reduceEq, Int.reduceNe, Int.reduceBEq, Int.reduceBNe, Int.reduceToNat, Int.reduceGT, Int.reduceGE, ↓reduceIte, decide_true, decide_false, hil, hpl, hat, hcm, hs, hs'.1, hs'.2, Vial.cs]
     ·have hs0 : (stop && cz v l k + 1 == m) = false := by simpa using hs
      simp (decide := true) (maxSteps := 4000000) only [go_sem, Nat.reduceAdd, Nat.reduceSub, Nat.reduceMul, Nat.reduceDiv, Nat.reduceMod, Nat.reduceLT, Nat.reduceLeDiff, Nat.reduceEqDiff, Nat.reduceBEq, Nat.reduceBNe, Nat.reduceGT, Int.reduceAdd, Int.reduceSub, Int.reduceMul, Int.reduceNeg, Int.reduceLT, Int.reduceLE, Int.reduceEq, Int.reduceNe, Int.reduceBEq, Int.reduceBNe, Int.reduceToNat, Int.reduceGT, Int.reduceGE, ↓reduceIte, decide_true, decide_false, hil, hpl, hat, hcm, hs0, Vial.cs]
      refine ⟨⟨k + 1, by omega, fun h => ?_⟩, ?_⟩
      ·rw [hcz]; subst h; simp at hs0; omega
      ·simp (decide := true) (maxSteps := 4000000) only [go_sem, Nat.reduceAdd, Nat.reduceSub, Nat.reduceMul, Nat.reduceDiv, Nat.reduceMod, Nat.reduceLT, Nat.reduceLeDiff, Nat.reduceEqDiff, Nat.reduceBEq, Nat.reduceBNe, Nat.reduceGT, Int.reduceAdd, Int.reduceSub, Int.reduceMul, Int.reduceNeg, Int.reduceLT, Int.reduceLE, Int.reduceEq, Int.reduceNe, Int.reduceBEq, Int.reduceBNe, Int.reduceToNat, Int.reduceGT, Int.reduceGE, ↓reduceIte, decide_true, decide_false, hz1, hcz, Vial.cs]
       omega
  ·simp (decide := true) (maxSteps := 4000000) only [go_sem, Nat.reduceAdd, Nat.reduceSub, Nat.reduceMul, Nat.reduceDiv, Nat.reduceMod, Nat.reduceLT, Nat.reduceLeDiff, Nat.reduceEqDiff, Nat.reduceBEq, Nat.reduceBNe, Nat.reduceGT, Int.reduceAdd, Int.reduceSub, Int.reduceMul, Int.reduceNeg, Int.reduceLT, Int.reduceLE, Int.reduceEq, Int.reduceNe, Int.reduceBEq, Int.reduceBNe, Int.reduceToNat, Int.reduceGT, Int.reduceGE, ↓reduceIte, decide_true, decide_false, hlt, Vial.cs]
   have hkN : k = (v.z1 - v.z0 + 1).toNat := by omega
   subst hkN
   cases stop with
   | false => rw [hm2 rfl, hzl, cz_all]
   | true => have := hst rfl; rw [cz_all] at this; omega
end Go.Proofs.YtlonlnfenbadbaaDoor.Lv

/- Part La. -/
namespace Go.Oc.Lv
end Go.Oc.Lv
namespace Go.Proofs.YtlonlnfenbadbaaDoor.Lv
end Go.Proofs.YtlonlnfenbadbaaDoor.Lv
namespace Go.Proofs.YtlonlnfenbadbaaDoor.Lv
open Go.RowKit Go.Pm Go.Oc Go.Oc.Lv
set_option maxRecDepth 100000
set_option linter.unusedVariables false
set_option maxHeartbeats 1000000

theorem lEnds1_c (a b : Int) (full : Bool) : PCalls Tryd.prog 123 [.int .i64 a, .sl [.int .i64 b] 1 full] (.tup [.int .i64 (min a b), .int .i64 (max a b)]) := lEnds_c a [b] full (by simp)
noncomputable def glEnds : List TV → Option TV
 | [.int .i64 a, .sl [.int .i64 b] 1 full] => some (.tup [.int .i64 (min a b), .int .i64 (max a b)])
 | _ => none
theorem glEnds_ok : ∀ xs r, glEnds xs = some r → PCalls Tryd.prog 123 xs r := by
 intro xs r h
 unfold glEnds at h
 split at h
 ·cases h; exact lEnds1_c _ _ _
 ·cases h
attribute [go_sem] glEnds
noncomputable def glZeros : List TV → Option TV
 | [.agg [.int .i64 m, .int .i64 a, .int .i64 b, .int .i64 c, .int .i64 d, .int .i64 e, .int .i64 f, .int .i64 g], .sl cs n full] => some (.fn 155 [] [.cptr (Vial.cs ⟨m, a, b, c, d, e, f, g⟩), .cptr [.sl cs n full]])
 | _ => none
theorem glZeros_ok : ∀ xs r, glZeros xs = some r → PCalls Tryd.prog 122 xs r := by
 intro xs r h
 unfold glZeros at h
 split at h
 ·cases h; exact lZeros_c ⟨_, _, _, _, _, _, _, _⟩ _ ⟨_, _, _, rfl⟩
 ·cases h
attribute [go_sem] glZeros
noncomputable def spL4 : Pm.Spec := (spL3.one 123 glEnds).one 122 glZeros
@[go_sem] theorem spL4_p (f : FuncId) (xs : List TV) : spL4.p f xs = Pm.Spec.p ((spL3.one 123 glEnds).one 122 glZeros) f xs := rfl
@[go_sem] theorem spL4_h (f : FuncId) (ps : List PV) (hl : List PO) : spL4.h f ps hl = Pm.Spec.h ((spL3.one 123 glEnds).one 122 glZeros) f ps hl := rfl
@[go_sem] theorem spL4_y (Y : Pm.YS) (f : FuncId) (ps : List PV) (hl : List PO) : spL4.y Y f ps hl = Pm.Spec.y ((spL3.one 123 glEnds).one 122 glZeros) Y f ps hl := rfl
@[go_sem] theorem spL4_fz (f : FuncId) : spL4.fz f = Pm.Spec.fz ((spL3.one 123 glEnds).one 122 glZeros) f := rfl
@[go_sem] theorem spL4_fr (f : FuncId) : spL4.fr f = Pm.Spec.fr ((spL3.one 123 glEnds).one 122 glZeros) f := rfl
@[go_sem] theorem spL4_yf (f : FuncId) : spL4.yf f = Pm.Spec.yf ((spL3.one 123 glEnds).one 122 glZeros) f := rfl
@[go_sem] theorem spL4_gd : spL4.gd = Pm.Spec.gd ((spL3.one 123 glEnds).one 122 glZeros) := rfl
@[go_sem] theorem spL4_mu (t : TypeId) : spL4.mu t = Pm.Spec.mu ((spL3.one 123 glEnds).one 122 glZeros) t := rfl
@[go_sem] theorem spL4_nf (t : TypeId) : spL4.nf t = Pm.Spec.nf ((spL3.one 123 glEnds).one 122 glZeros) t := rfl
theorem spL4_ok : SpecOk Tryd.prog spL4 := Spec.one_ok glZeros_ok (Spec.one_ok glEnds_ok spL3_ok)

def tk (v : Vial) (l : List Mk) (i : Nat) : TZ := tiltsOf v ((zerosOf v l (allZ v)).take i)
theorem tk_succ {v : Vial} {l : List Mk} {i : Nat} {y : Int × Span} (h : (zerosOf v l (allZ v))[i]? = some y) : tk v l (i + 1) = tiltStep v (tk v l i) y := by
 unfold tk tiltsOf; rw [take_snoc h, List.foldl_append]; rfl
theorem zerosOf_mem {v : Vial} {l : List Mk} {y : Int × Span} (h : y ∈ zerosOf v l (allZ v)) : y.2 = withinS v.wr l y.1 ∧ y.2.lo ≤ y.2.hi ∧ v.z0 ≤ y.1 ∧ y.1 ≤ v.z1 := by
 unfold zerosOf allZ range at h
 simp only [List.mem_filterMap, List.mem_map, List.mem_range] at h
 obtain ⟨z, ⟨k, hk, rfl⟩, h⟩ := h
 split at h
 ·rename_i hle; cases h; exact ⟨rfl, hle, by simp only; omega, by simp only; omega⟩
 ·cases h
theorem lTilts_c (v : Vial) (l : List Mk) (full : Bool) (h1 : 1 ≤ l.length) (hv : v.ok = true) (hm : mksOk l = true) (hl : l.length ≤ 100) :
  PCalls Tryd.prog 74 [v.t, .sl (l.flatMap Mk.als) l.length full] (tilts v l).t := by
 have hv' := Vial.ok_iff.1 hv
 refine pcalls_by Tryd.mixes spL4_ok (fn := Tryd.f74) Tryd.func74 rfl (by kernel_rfl) (by show 2 ≤ _; decide) ?_
 simp (decide := true) (maxSteps := 4000000) only [go_sem, Nat.reduceAdd, Nat.reduceSub, Nat.reduceMul, Nat.reduceDiv, Nat.reduceMod, Nat.reduceLT, Nat.reduceLeDiff, Nat.reduceEqDiff, Nat.reduceBEq, Nat.reduceBNe, Nat.reduceGT, Int.reduceAdd, Int.reduceSub, Int.reduceMul, Int.reduceNeg, Int.reduceLT, Int.reduceLE, Int.reduceEq, Int.reduceNe, Int.reduceBEq, Int.reduceBNe, Int.reduceToNat, Int.reduceGT, Int.reduceGE, ↓reduceIte, decide_true, decide_false, Tryd.f74, Vial.t, Vial.cs]
 refine pwpC_range rfl 155 [] [.cptr v.cs, .cptr [.sl (l.flatMap Mk.als) l.length full]] (zs v l) [(15, .t (.fn 155 [] [.cptr v.cs, .cptr [.sl (l.flatMap Mk.als) l.length full]])), (2, .ptr 0 0), (4, .ptr 1 0), (5, .ptr 2 0), (6, .ptr 3 0)]
  (fun i => [.box (v.cs.map .t), .box ((tk v l i).tilt.cs.map .t), .box ((tk v l i).zero.cs.map .t), .box [.t (.bool (tk v l i).is)]]) 4 ?_ (by rfl) (by rfl) ?_ (lZeros1_c v l full h1 hv hm hl) ?_ (fun i => by simp) (fun i => rfl) (fun i x hx => ?_) ?_
 ·simp (decide := true) (maxSteps := 4000000) only [go_sem, Nat.reduceAdd, Nat.reduceSub, Nat.reduceMul, Nat.reduceDiv, Nat.reduceMod, Nat.reduceLT, Nat.reduceLeDiff, Nat.reduceEqDiff, Nat.reduceBEq, Nat.reduceBNe, Nat.reduceGT, Int.reduceAdd, Int.reduceSub, Int.reduceMul, Int.reduceNeg, Int.reduceLT, Int.reduceLE, Int.reduceEq, Int.reduceNe, Int.reduceBEq, Int.reduceBNe, Int.reduceToNat, Int.reduceGT, Int.reduceGE, ↓reduceIte, decide_true, decide_false, Vial.cs, Span.cs, tk, tiltsOf]
 ·simp (decide := true) (maxSteps := 4000000) only [go_sem, Nat.reduceAdd, Nat.reduceSub, Nat.reduceMul, Nat.reduceDiv, Nat.reduceMod, Nat.reduceLT, Nat.reduceLeDiff, Nat.reduceEqDiff, Nat.reduceBEq, Nat.reduceBNe, Nat.reduceGT, Int.reduceAdd, Int.reduceSub, Int.reduceMul, Int.reduceNeg, Int.reduceLT, Int.reduceLE, Int.reduceEq, Int.reduceNe, Int.reduceBEq, Int.reduceBNe, Int.reduceToNat, Int.reduceGT, Int.reduceGE, ↓reduceIte, decide_true, decide_false, Vial.cs]
 ·intro x hx
  unfold zs at hx
  obtain ⟨y, _, rfl⟩ := List.mem_map.1 hx
  rfl
 ·unfold zs at hx
  simp only [List.getElem?_map, Option.map_eq_some_iff] at hx
  obtain ⟨y, hy, rfl⟩ := hx
  obtain ⟨hy1, hy2, hy3, hy4⟩ := zerosOf_mem (List.mem_of_getElem? hy)
  have hb := withinS_bound (w := v.wr) (z := y.1) (by omega) (by omega) (l := l) (s := ⟨-10000, 10000⟩) hm (by simp)
  have hwi : withinS v.wr l y.1 = l.foldl (inS v.wr y.1) ⟨-10000, 10000⟩ := rfl
  rw [← hwi, ← hy1] at hb
  have p1 := mulB (a := y.2.lo) (b := v.v0) (by omega) (by omega)
  have p2 := mulB (a := y.2.lo) (b := v.v1) (by omega) (by omega)
  have p3 := mulB (a := y.2.hi) (b := v.v0) (by omega) (by omega)
  have p4 := mulB (a := y.2.hi) (b := v.v1) (by omega) (by omega)
  have w1 : IntKind.i64.wrap (v.v0 * y.2.lo) = y.2.lo * v.v0 := by rw [Int.mul_comm]; exact wrap_in (by omega) (by omega)
  have w2 : IntKind.i64.wrap (v.v1 * y.2.lo) = y.2.lo * v.v1 := by rw [Int.mul_comm]; exact wrap_in (by omega) (by omega)
  have w3 : IntKind.i64.wrap (v.v0 * y.2.hi) = y.2.hi * v.v0 := by rw [Int.mul_comm]; exact wrap_in (by omega) (by omega)
  have w4 : IntKind.i64.wrap (v.v1 * y.2.hi) = y.2.hi * v.v1 := by rw [Int.mul_comm]; exact wrap_in (by omega) (by omega)
  have hlm := least_most hv hy2
  unfold leastP mostP at hlm
  have hs := tk_succ hy
  cases his : (tk v l i).is
  ·simp (decide := true) (maxSteps := 4000000) only [go_sem, Nat.reduceAdd, Nat.reduceSub, Nat.reduceMul, Nat.reduceDiv, Nat.reduceMod, Nat.reduceLT, Nat.reduceLeDiff, Nat.reduceEqDiff, Nat.reduceBEq, Nat.reduceBNe, Nat.reduceGT, Int.reduceAdd, Int.reduceSub, Int.reduceMul, Int.reduceNeg, Int.reduceLT, Int.reduceLE, Int.reduceEq, Int.reduceNe, Int.reduceBEq, Int.reduceBNe, Int.reduceToNat, Int.reduceGT, Int.reduceGE, ↓reduceIte, decide_true, decide_false, Vial.cs, Span.cs, Span.t, w1, w2, w3, w4, his, hs, tiltStep, leastP, mostP]
   omega
  ·simp (decide := true) (maxSteps := 4000000) only [go_sem, Nat.reduceAdd, Nat.reduceSub, Nat.reduceMul, Nat.reduceDiv, Nat.reduceMod, Nat.reduceLT, Nat.reduceLeDiff, Nat.reduceEqDiff, Nat.reduceBEq, Nat.reduceBNe, Nat.reduceGT, Int.reduceAdd, Int.reduceSub, Int.reduceMul, Int.reduceNeg, Int.reduceLT, Int.reduceLE, Int.reduceEq, Int.reduceNe, Int.reduceBEq, Int.reduceBNe, Int.reduceToNat, Int.reduceGT, Int.reduceGE, ↓reduceIte, decide_true, decide_false, Vial.cs, Span.cs, Span.t, w1, w2, w3, w4, his, hs, tiltStep, leastP, mostP]
 ·have he : tk v l (zs v l).length = tilts v l := by unfold tk zs tilts; rw [List.length_map, List.take_length]
  simp (decide := true) (maxSteps := 4000000) only [go_sem, Nat.reduceAdd, Nat.reduceSub, Nat.reduceMul, Nat.reduceDiv, Nat.reduceMod, Nat.reduceLT, Nat.reduceLeDiff, Nat.reduceEqDiff, Nat.reduceBEq, Nat.reduceBNe, Nat.reduceGT, Int.reduceAdd, Int.reduceSub, Int.reduceMul, Int.reduceNeg, Int.reduceLT, Int.reduceLE, Int.reduceEq, Int.reduceNe, Int.reduceBEq, Int.reduceBNe, Int.reduceToNat, Int.reduceGT, Int.reduceGE, ↓reduceIte, decide_true, decide_false, he, Vial.cs, Span.cs, TZ.t, Span.t]
noncomputable def glTilts : List TV → Option TV
 | [.agg [.int .i64 m, .int .i64 a, .int .i64 b, .int .i64 c, .int .i64 d, .int .i64 e, .int .i64 f, .int .i64 g], s] => match rowL unAls s with
  | some l => if 1 ≤ l.length ∧ Vial.ok ⟨m, a, b, c, d, e, f, g⟩ = true ∧ mksOk l = true ∧ l.length ≤ 100 then some ((tilts ⟨m, a, b, c, d, e, f, g⟩ l).t) else none
  | none => none
 | _ => none
theorem glTilts_ok : ∀ xs r, glTilts xs = some r → PCalls Tryd.prog 74 xs r := by
 intro xs r h
 unfold glTilts at h
 split at h
 ·split at h
  ·rename_i l hl
   have hl := rowL_some (un := unAls) (by first | rfl | exact unAls_nil) (@unAls_some) hl
   split at h
   ·rename_i hc; cases h; exact (by obtain ⟨h0, h1, h2, h3⟩ := hc; obtain ⟨full, rfl⟩ := hl.ne h0; exact lTilts_c ⟨_, _, _, _, _, _, _, _⟩ _ _ h0 h1 h2 h3)
   ·cases h
  ·cases h
 ·cases h
attribute [go_sem] glTilts
noncomputable def spL5 : Pm.Spec := spL4.one 74 glTilts
@[go_sem] theorem spL5_p (f : FuncId) (xs : List TV) : spL5.p f xs = Pm.Spec.p (spL4.one 74 glTilts) f xs := rfl
@[go_sem] theorem spL5_h (f : FuncId) (ps : List PV) (hl : List PO) : spL5.h f ps hl = Pm.Spec.h (spL4.one 74 glTilts) f ps hl := rfl
@[go_sem] theorem spL5_y (Y : Pm.YS) (f : FuncId) (ps : List PV) (hl : List PO) : spL5.y Y f ps hl = Pm.Spec.y (spL4.one 74 glTilts) Y f ps hl := rfl
@[go_sem] theorem spL5_fz (f : FuncId) : spL5.fz f = Pm.Spec.fz (spL4.one 74 glTilts) f := rfl
@[go_sem] theorem spL5_fr (f : FuncId) : spL5.fr f = Pm.Spec.fr (spL4.one 74 glTilts) f := rfl
@[go_sem] theorem spL5_yf (f : FuncId) : spL5.yf f = Pm.Spec.yf (spL4.one 74 glTilts) f := rfl
@[go_sem] theorem spL5_gd : spL5.gd = Pm.Spec.gd (spL4.one 74 glTilts) := rfl
@[go_sem] theorem spL5_mu (t : TypeId) : spL5.mu t = Pm.Spec.mu (spL4.one 74 glTilts) t := rfl
@[go_sem] theorem spL5_nf (t : TypeId) : spL5.nf t = Pm.Spec.nf (spL4.one 74 glTilts) t := rfl
theorem spL5_ok : SpecOk Tryd.prog spL5 := Spec.one_ok glTilts_ok spL4_ok
end Go.Proofs.YtlonlnfenbadbaaDoor.Lv

/- Part Lb. -/
namespace Go.Oc.Lv
end Go.Oc.Lv
namespace Go.Proofs.YtlonlnfenbadbaaDoor.Lv
end Go.Proofs.YtlonlnfenbadbaaDoor.Lv
namespace Go.Proofs.YtlonlnfenbadbaaDoor.Lv
open Go.RowKit Go.Pm Go.Oc Go.Oc.Lv
set_option maxRecDepth 100000
set_option linter.unusedVariables false
set_option maxHeartbeats 1000000

theorem openedT_no {v : Vial} {l : List Rd} (h : asked v l ≠ 0) : ∃ u : Vial, openedT v l = .tup [u.t, .nilSl, .int .i64 (asked v l)] := by
 unfold openedT asked at *
 cases hv : v.ok
 ·exact ⟨⟨0, 0, 0, 0, 0, 0, 0, 0⟩, by simp⟩
 ·cases hr : rdsOk v l
  ·exact ⟨v, by simp⟩
  ·simp [hv, hr] at h
theorem openedT_yes {v : Vial} {l : List Rd} (h : asked v l = 0) : openedT v l = .tup [v.t, .sl ((l.map mid).flatMap Mk.als) l.length false, .int .i64 0] := by
 obtain ⟨hv, hr⟩ := asked_zero h
 unfold openedT; simp [hv, hr]
theorem lTilt_c (v : Vial) {l : List Rd} {s : TV} (hs : IsRow Rd.cs s l) (hl : l.length ≤ 5864062014806) : PCalls Tryd.prog 23 [v.t, s] (tiltR v l).t := by
 refine pcalls_by Tryd.mixes spL5_ok (fn := Tryd.f23) Tryd.func23 rfl (by kernel_rfl) (by show 2 ≤ _; decide) ?_
 unfold tiltR
 by_cases hk : asked v l = 0
 ·obtain ⟨hv, hr⟩ := asked_zero hk
  have hm := mksOk_mid hv hr
  have h8 := rdsOk_len hr
  have h100 : l.length ≤ 100 := by omega
  have ho := openedT_yes hk
  obtain ⟨full, rfl⟩ := hs.ne h8.1
  cases hi : (tilts v (l.map mid)).is <;> simp (decide := true) (maxSteps := 4000000) only [go_sem, Nat.reduceAdd, Nat.reduceSub, Nat.reduceMul, Nat.reduceDiv, Nat.reduceMod, Nat.reduceLT, Nat.reduceLeDiff, Nat.reduceEqDiff, Nat.reduceBEq, Nat.reduceBNe, Nat.reduceGT, Int.reduceAdd, Int.reduceSub, Int.reduceMul, Int.reduceNeg, Int.reduceLT, Int.reduceLE, Int.reduceEq, Int.reduceNe, Int.reduceBEq, Int.reduceBNe, Int.reduceToNat, Int.reduceGT, Int.reduceGE, ↓reduceIte, decide_true, decide_false, Tryd.f23, Vial.t, Vial.cs, hk, hl, ho, hv, h8.1, h8.2, h100, hm, List.length_map, TZ.t, Span.t, Span.cs, hi, TE.t]
 ·obtain ⟨u, ho⟩ := openedT_no hk
  have hk' : (asked v l != 0) = true := by simpa using hk
  rcases hs with ⟨rfl, rfl⟩ | ⟨full, rfl⟩ <;> simp (decide := true) (maxSteps := 4000000) only [go_sem, Nat.reduceAdd, Nat.reduceSub, Nat.reduceMul, Nat.reduceDiv, Nat.reduceMod, Nat.reduceLT, Nat.reduceLeDiff, Nat.reduceEqDiff, Nat.reduceBEq, Nat.reduceBNe, Nat.reduceGT, Int.reduceAdd, Int.reduceSub, Int.reduceMul, Int.reduceNeg, Int.reduceLT, Int.reduceLE, Int.reduceEq, Int.reduceNe, Int.reduceBEq, Int.reduceBNe, Int.reduceToNat, Int.reduceGT, Int.reduceGE, ↓reduceIte, decide_true, decide_false, Tryd.f23, Vial.t, Vial.cs, unRds, hl, ho, hk, hk', TE.t, Span.t, Span.cs]
def canB (v : Vial) (l : List Mk) (tv tz tt : Int) : Bool := l.all fun m => inB tt (tv * (outM m tz - v.wr)) (tv * (outM m tz + v.wr))
def canP (v : Vial) (l : List Rd) (tv tz tt : Int) : Bool × Int :=
 if asked v l = 0 then (if inB tv v.v0 v.v1 = true ∧ inB tz v.z0 v.z1 = true then (canB v (l.map mid) tv tz tt, 0) else (false, 32)) else (false, asked v l)
theorem lCan_c (v : Vial) {l : List Rd} {s : TV} (hs : IsRow Rd.cs s l) (hl : l.length ≤ 5864062014806) (tv tz tt : Int) : PCalls Tryd.prog 22 [v.t, s, .agg [.int .i64 tv, .int .i64 tz, .int .i64 tt]] (.tup [.bool (canP v l tv tz tt).1, .int .i64 (canP v l tv tz tt).2]) := by
 refine pcalls_by Tryd.mixes spL5_ok (fn := Tryd.f22) Tryd.func22 rfl (by kernel_rfl) (by show 3 ≤ _; decide) ?_
 unfold canP
 by_cases hk : asked v l = 0
 ·obtain ⟨hv, hr⟩ := asked_zero hk
  have hv' := Vial.ok_iff.1 hv
  have hm := mksOk_mid hv hr
  have h8 := rdsOk_len hr
  have h100 : l.length ≤ 100 := by omega
  have ho := openedT_yes hk
  obtain ⟨full, rfl⟩ := hs.ne h8.1
  cases h1 : inB tv v.v0 v.v1 with
  | false => simp (decide := true) (maxSteps := 4000000) only [go_sem, Nat.reduceAdd, Nat.reduceSub, Nat.reduceMul, Nat.reduceDiv, Nat.reduceMod, Nat.reduceLT, Nat.reduceLeDiff, Nat.reduceEqDiff, Nat.reduceBEq, Nat.reduceBNe, Nat.reduceGT, Int.reduceAdd, Int.reduceSub, Int.reduceMul, Int.reduceNeg, Int.reduceLT, Int.reduceLE, Int.reduceEq, Int.reduceNe, Int.reduceBEq, Int.reduceBNe, Int.reduceToNat, Int.reduceGT, Int.reduceGE, ↓reduceIte, decide_true, decide_false, Tryd.f22, Vial.t, Vial.cs, hk, hl, ho, h1]
  | true =>
   cases h2 : inB tz v.z0 v.z1 with
   | false => simp (decide := true) (maxSteps := 4000000) only [go_sem, Nat.reduceAdd, Nat.reduceSub, Nat.reduceMul, Nat.reduceDiv, Nat.reduceMod, Nat.reduceLT, Nat.reduceLeDiff, Nat.reduceEqDiff, Nat.reduceBEq, Nat.reduceBNe, Nat.reduceGT, Int.reduceAdd, Int.reduceSub, Int.reduceMul, Int.reduceNeg, Int.reduceLT, Int.reduceLE, Int.reduceEq, Int.reduceNe, Int.reduceBEq, Int.reduceBNe, Int.reduceToNat, Int.reduceGT, Int.reduceGE, ↓reduceIte, decide_true, decide_false, Tryd.f22, Vial.t, Vial.cs, hk, hl, ho, h1, h2]
   | true =>
    have h1' := inB_iff.1 h1
    have h2' := inB_iff.1 h2
    have hz : 0 ≤ tz ∧ tz ≤ 400 := by omega
    have hw : 0 ≤ v.wr ∧ v.wr ≤ 8 := hv'.2.2.2.2
    simp (decide := true) (maxSteps := 4000000) only [go_sem, Nat.reduceAdd, Nat.reduceSub, Nat.reduceMul, Nat.reduceDiv, Nat.reduceMod, Nat.reduceLT, Nat.reduceLeDiff, Nat.reduceEqDiff, Nat.reduceBEq, Nat.reduceBNe, Nat.reduceGT, Int.reduceAdd, Int.reduceSub, Int.reduceMul, Int.reduceNeg, Int.reduceLT, Int.reduceLE, Int.reduceEq, Int.reduceNe, Int.reduceBEq, Int.reduceBNe, Int.reduceToNat, Int.reduceGT, Int.reduceGE, ↓reduceIte, decide_true, decide_false, Tryd.f22, Vial.t, Vial.cs, hk, hl, ho, h1, h2]
    refine pwpC_loop (A := { k : Nat // k ≤ l.length ∧ canB v ((l.map mid).take k) tv tz tt = true }) (fun k => { env := [(52, .t (.int .i64 k.1)), (51, .t (.int .i64 l.length)), (50, .t (.sl ((l.map mid).flatMap Mk.als) l.length false)), (8, .ptr 2 0), (5, .ptr 1 0)], heap := [.box (v.cs.map .t), .box [.t (.int .i64 tv), .t (.int .i64 tz), .t (.int .i64 tt)], .box (v.cs.map .t)] }) (fun k => l.length - k.1) ⟨0, by omega, rfl⟩ ?_ (fun k => by rfl) fun ⟨k, hk1, hk2⟩ => ?_
    ·simp (decide := true) (maxSteps := 4000000) only [go_sem, Nat.reduceAdd, Nat.reduceSub, Nat.reduceMul, Nat.reduceDiv, Nat.reduceMod, Nat.reduceLT, Nat.reduceLeDiff, Nat.reduceEqDiff, Nat.reduceBEq, Nat.reduceBNe, Nat.reduceGT, Int.reduceAdd, Int.reduceSub, Int.reduceMul, Int.reduceNeg, Int.reduceLT, Int.reduceLE, Int.reduceEq, Int.reduceNe, Int.reduceBEq, Int.reduceBNe, Int.reduceToNat, Int.reduceGT, Int.reduceGE, ↓reduceIte, decide_true, decide_false, Vial.cs]
    ·by_cases hlt : (k : Int) < l.length
     ·have hlt' : (k : Int) < (l.map mid).length := by simpa using hlt
      obtain ⟨x, hx⟩ := get_lt hlt'
      have hd := flat_at Mk.als (n := 1) (fun _ => rfl) hx
      have hxm : inB x.at' 0 400 = true := List.all_eq_true.1 hm x (List.mem_of_getElem? hx)
      have hxm' := inB_iff.1 hxm
      have hc1 : IntKind.i64.wrap (k + 1) = ((k + 1 : Nat) : Int) := by rw [wrap_in (by omega) (by omega)]; omega
      have hd1 : l.length - (k + 1) < l.length - k := by omega
      have ho1 : -1000 ≤ outM x tz ∧ outM x tz ≤ 1000 := by unfold outM; split <;> omega
      have p1 := mulB (a := outM x tz - v.wr) (b := tv) (by omega) (by omega)
      have p2 := mulB (a := outM x tz + v.wr) (b := tv) (by omega) (by omega)
      have w1 : IntKind.i64.wrap (tv * (outM x tz - v.wr)) = tv * (outM x tz - v.wr) := by rw [Int.mul_comm]; exact wrap_in (by omega) (by omega)
      have w2 : IntKind.i64.wrap (tv * (outM x tz + v.wr)) = tv * (outM x tz + v.wr) := by rw [Int.mul_comm]; exact wrap_in (by omega) (by omega)
      have htk := take_all (fun m => inB tt (tv * (outM m tz - v.wr)) (tv * (outM m tz + v.wr))) hx
      cases hb : inB tt (tv * (outM x tz - v.wr)) (tv * (outM x tz + v.wr)) with
      | false =>
       have hf : canB v (l.map mid) tv tz tt = false := by
        unfold canB
        refine all_of_take (k := k + 1) ?_
        rw [htk, hb, Bool.and_false]
       obtain ⟨a, tu⟩ := x
       cases tu <;> simp only [outM, if_true, if_false, Bool.false_eq_true] at w1 w2 hb <;> simp (decide := true) (maxSteps := 4000000) only [go_sem, Nat.reduceAdd, Nat.reduceSub, Nat.reduceMul, Nat.reduceDiv, Nat.reduceMod, Nat.reduceLT, Nat.reduceLeDiff, Nat.reduceEqDiff, Nat.reduceBEq, Nat.reduceBNe, Nat.reduceGT, Int.reduceAdd, Int.reduceSub, Int.reduceMul, Int.reduceNeg, Int.reduceLT, Int.reduceLE, Int.reduceEq, Int.reduceNe, Int.reduceBEq, Int.reduceBNe, Int.reduceToNat, Int.reduceGT, Int.reduceGE, ↓reduceIte, decide_true, decide_false, hlt, hd, Mk.als, Mk.al, Vial.cs, hxm, hz, hw, w1, w2, hb, hf]
      | true =>
       have ht : canB v ((l.map mid).take (k + 1)) tv tz tt = true := by
        unfold canB at hk2 ⊢
        rw [htk, hb, hk2]; rfl
       obtain ⟨a, tu⟩ := x
       cases tu <;> simp only [outM, if_true, if_false, Bool.false_eq_true] at w1 w2 hb <;> simp (decide := true) (maxSteps := 4000000) only [go_sem, Nat.reduceAdd, Nat.reduceSub, Nat.reduceMul, Nat.reduceDiv, Nat.reduceMod, Nat.reduceLT, Nat.reduceLeDiff, Nat.reduceEqDiff, Nat.reduceBEq, Nat.reduceBNe, Nat.reduceGT, Int.reduceAdd, Int.reduceSub, Int.reduceMul, Int.reduceNeg, Int.reduceLT, Int.reduceLE, Int.reduceEq, Int.reduceNe, Int.reduceBEq, Int.reduceBNe, Int.reduceToNat, Int.reduceGT, Int.reduceGE, ↓reduceIte, decide_true, decide_false, hlt, hd, Mk.als, Mk.al, Vial.cs, hxm, hz, hw, w1, w2, hb]
       all_goals refine ⟨⟨k + 1, by omega, ht⟩, ?_⟩
       all_goals simp (decide := true) (maxSteps := 4000000) only [go_sem, Nat.reduceAdd, Nat.reduceSub, Nat.reduceMul, Nat.reduceDiv, Nat.reduceMod, Nat.reduceLT, Nat.reduceLeDiff, Nat.reduceEqDiff, Nat.reduceBEq, Nat.reduceBNe, Nat.reduceGT, Int.reduceAdd, Int.reduceSub, Int.reduceMul, Int.reduceNeg, Int.reduceLT, Int.reduceLE, Int.reduceEq, Int.reduceNe, Int.reduceBEq, Int.reduceBNe, Int.reduceToNat, Int.reduceGT, Int.reduceGE, ↓reduceIte, decide_true, decide_false, hc1, hd1, Vial.cs]
     ·have hkl : k = (l.map mid).length := by rw [List.length_map]; omega
      rw [hkl, List.take_length] at hk2
      simp (decide := true) (maxSteps := 4000000) only [go_sem, Nat.reduceAdd, Nat.reduceSub, Nat.reduceMul, Nat.reduceDiv, Nat.reduceMod, Nat.reduceLT, Nat.reduceLeDiff, Nat.reduceEqDiff, Nat.reduceBEq, Nat.reduceBNe, Nat.reduceGT, Int.reduceAdd, Int.reduceSub, Int.reduceMul, Int.reduceNeg, Int.reduceLT, Int.reduceLE, Int.reduceEq, Int.reduceNe, Int.reduceBEq, Int.reduceBNe, Int.reduceToNat, Int.reduceGT, Int.reduceGE, ↓reduceIte, decide_true, decide_false, hlt, hk2]
 ·obtain ⟨u, ho⟩ := openedT_no hk
  have hk' : (asked v l != 0) = true := by simpa using hk
  rcases hs with ⟨rfl, rfl⟩ | ⟨full, rfl⟩ <;> simp (decide := true) (maxSteps := 4000000) only [go_sem, Nat.reduceAdd, Nat.reduceSub, Nat.reduceMul, Nat.reduceDiv, Nat.reduceMod, Nat.reduceLT, Nat.reduceLeDiff, Nat.reduceEqDiff, Nat.reduceBEq, Nat.reduceBNe, Nat.reduceGT, Int.reduceAdd, Int.reduceSub, Int.reduceMul, Int.reduceNeg, Int.reduceLT, Int.reduceLE, Int.reduceEq, Int.reduceNe, Int.reduceBEq, Int.reduceBNe, Int.reduceToNat, Int.reduceGT, Int.reduceGE, ↓reduceIte, decide_true, decide_false, Tryd.f22, Vial.t, Vial.cs, unRds, hl, ho, hk, hk']
end Go.Proofs.YtlonlnfenbadbaaDoor.Lv

/- Part Lc. -/
namespace Go.Oc.Lv
end Go.Oc.Lv
namespace Go.Proofs.YtlonlnfenbadbaaDoor.Lv
end Go.Proofs.YtlonlnfenbadbaaDoor.Lv
namespace Go.Proofs.YtlonlnfenbadbaaDoor.Lv
open Go.RowKit Go.Pm Go.Oc Go.Oc.Lv
set_option maxRecDepth 100000
set_option linter.unusedVariables false
set_option maxHeartbeats 1000000

theorem ediv_tdiv {a b : Int} (h : 0 < b) : (if a.tmod b < 0 then a.tdiv b - 1 else a.tdiv b) = a / b := by
 have h1 := Int.mul_tdiv_add_tmod a b
 have h2 := Int.mul_ediv_add_emod a b
 have h3 := Int.emod_nonneg a (show b ≠ 0 by omega)
 have h4 := Int.emod_lt_of_pos a h
 have h5 : -b < a.tmod b ∧ a.tmod b < b := by
  have := Int.tmod_lt_of_pos a h
  have h6 := Int.tmod_lt_of_pos (-a) h
  rw [Int.neg_tmod] at h6
  omega
 by_cases hn : a.tmod b < 0
 ·rw [if_pos hn]
  have e : b * (a.tdiv b - 1) + (a.tmod b + b) = a := by rw [Int.mul_sub]; omega
  have := (Int.ediv_emod_unique h (a := a) (r := a.tmod b + b) (q := a.tdiv b - 1)).2 ⟨by omega, by omega, by omega⟩
  exact this.1.symm
 ·rw [if_neg hn]
  have := (Int.ediv_emod_unique h (a := a) (r := a.tmod b) (q := a.tdiv b)).2 ⟨by omega, by omega, by omega⟩
  exact this.1.symm
theorem divB {a b : Int} (hb : 0 < b) (ha : -4000000000000000000 ≤ a ∧ a ≤ 4000000000000000000) : -4000000000000000000 ≤ a / b ∧ a / b ≤ 4000000000000000000 := by
 have h1 := Int.ediv_le_self (a := 4000000000000000000) b (by omega)
 have h2 := Int.ediv_le_ediv hb (show a ≤ 4000000000000000000 by omega)
 have h3 := Int.ediv_le_ediv hb (show -4000000000000000000 ≤ a by omega)
 have h4 : -4000000000000000000 ≤ (-4000000000000000000) / b := by
  rw [Int.le_ediv_iff_mul_le hb]
  omega
 omega
theorem lDown_c (a b : Int) (hb : 0 < b) (ha : -4000000000000000000 ≤ a ∧ a ≤ 4000000000000000000) : PCalls Tryd.prog 77 [.int .i64 a, .int .i64 b] (.int .i64 (a / b)) := by
 refine pcalls_by Tryd.mixes noSpec_ok (fn := Tryd.f77) Tryd.func77 rfl (by kernel_rfl) (by show 2 ≤ _; decide) ?_
 have hne : ¬ b = 0 := by omega
 have hq := ediv_tdiv (a := a) hb
 have hd := divB hb ha
 by_cases hn : a.tmod b < 0
 ·rw [if_pos hn] at hq
  have w1 : IntKind.i64.wrap (a.tdiv b) = a.tdiv b := wrap_in (by omega) (by omega)
  have w2 : IntKind.i64.wrap (a.tdiv b - 1) = a / b := by rw [wrap_in (by omega) (by omega)]; exact hq
  simp (decide := true) (maxSteps := 4000000) only [go_sem, Nat.reduceAdd, Nat.reduceSub, Nat.reduceMul, Nat.reduceDiv, Nat.reduceMod, Nat.reduceLT, Nat.reduceLeDiff, Nat.reduceEqDiff, Nat.reduceBEq, Nat.reduceBNe, Nat.reduceGT, Int.reduceAdd, Int.reduceSub, Int.reduceMul, Int.reduceNeg, Int.reduceLT, Int.reduceLE, Int.reduceEq, Int.reduceNe, Int.reduceBEq, Int.reduceBNe, Int.reduceToNat, Int.reduceGT, Int.reduceGE, ↓reduceIte, decide_true, decide_false, Tryd.f77, hne, hn, w1, w2]
 ·rw [if_neg hn] at hq
  have w1 : IntKind.i64.wrap (a.tdiv b) = a / b := by rw [wrap_in (by omega) (by omega)]; exact hq
  simp (decide := true) (maxSteps := 4000000) only [go_sem, Nat.reduceAdd, Nat.reduceSub, Nat.reduceMul, Nat.reduceDiv, Nat.reduceMod, Nat.reduceLT, Nat.reduceLeDiff, Nat.reduceEqDiff, Nat.reduceBEq, Nat.reduceBNe, Nat.reduceGT, Int.reduceAdd, Int.reduceSub, Int.reduceMul, Int.reduceNeg, Int.reduceLT, Int.reduceLE, Int.reduceEq, Int.reduceNe, Int.reduceBEq, Int.reduceBNe, Int.reduceToNat, Int.reduceGT, Int.reduceGE, ↓reduceIte, decide_true, decide_false, Tryd.f77, hne, hn, w1]
noncomputable def glDown : List TV → Option TV
 | [.int .i64 a, .int .i64 b] => if 0 < b ∧ -4000000000000000000 ≤ a ∧ a ≤ 4000000000000000000 then some (.int .i64 (a / b)) else none
 | _ => none
theorem glDown_ok : ∀ xs r, glDown xs = some r → PCalls Tryd.prog 77 xs r := by
 intro xs r h
 unfold glDown at h
 split at h
 ·split at h
  ·rename_i hc; cases h; exact lDown_c _ _ hc.1 hc.2
  ·cases h
 ·cases h
attribute [go_sem] glDown
noncomputable def spC1 : Pm.Spec := spL1.one 77 glDown
@[go_sem] theorem spC1_p (f : FuncId) (xs : List TV) : spC1.p f xs = Pm.Spec.p (spL1.one 77 glDown) f xs := rfl
@[go_sem] theorem spC1_h (f : FuncId) (ps : List PV) (hl : List PO) : spC1.h f ps hl = Pm.Spec.h (spL1.one 77 glDown) f ps hl := rfl
@[go_sem] theorem spC1_y (Y : Pm.YS) (f : FuncId) (ps : List PV) (hl : List PO) : spC1.y Y f ps hl = Pm.Spec.y (spL1.one 77 glDown) Y f ps hl := rfl
@[go_sem] theorem spC1_fz (f : FuncId) : spC1.fz f = Pm.Spec.fz (spL1.one 77 glDown) f := rfl
@[go_sem] theorem spC1_fr (f : FuncId) : spC1.fr f = Pm.Spec.fr (spL1.one 77 glDown) f := rfl
@[go_sem] theorem spC1_yf (f : FuncId) : spC1.yf f = Pm.Spec.yf (spL1.one 77 glDown) f := rfl
@[go_sem] theorem spC1_gd : spC1.gd = Pm.Spec.gd (spL1.one 77 glDown) := rfl
@[go_sem] theorem spC1_mu (t : TypeId) : spC1.mu t = Pm.Spec.mu (spL1.one 77 glDown) t := rfl
@[go_sem] theorem spC1_nf (t : TypeId) : spC1.nf t = Pm.Spec.nf (spL1.one 77 glDown) t := rfl
theorem spC1_ok : SpecOk Tryd.prog spC1 := Spec.one_ok glDown_ok spL1_ok
theorem lUp_c (a b : Int) (hb : 0 < b) (ha : -4000000000000000000 ≤ a ∧ a ≤ 4000000000000000000) : PCalls Tryd.prog 76 [.int .i64 a, .int .i64 b] (.int .i64 (-((-a) / b))) := by
 refine pcalls_by Tryd.mixes spC1_ok (fn := Tryd.f76) Tryd.func76 rfl (by kernel_rfl) (by show 2 ≤ _; decide) ?_
 have w1 : IntKind.i64.wrap (0 - a) = -a := by rw [wrap_in (by omega) (by omega)]; omega
 have hc : 0 < b ∧ -4000000000000000000 ≤ -a ∧ -a ≤ 4000000000000000000 := by omega
 have hd := divB hb (a := -a) (by omega)
 have w2 : IntKind.i64.wrap (0 - (-a) / b) = -((-a) / b) := by rw [wrap_in (by omega) (by omega)]; omega
 simp (decide := true) (maxSteps := 4000000) only [go_sem, Nat.reduceAdd, Nat.reduceSub, Nat.reduceMul, Nat.reduceDiv, Nat.reduceMod, Nat.reduceLT, Nat.reduceLeDiff, Nat.reduceEqDiff, Nat.reduceBEq, Nat.reduceBNe, Nat.reduceGT, Int.reduceAdd, Int.reduceSub, Int.reduceMul, Int.reduceNeg, Int.reduceLT, Int.reduceLE, Int.reduceEq, Int.reduceNe, Int.reduceBEq, Int.reduceBNe, Int.reduceToNat, Int.reduceGT, Int.reduceGE, ↓reduceIte, decide_true, decide_false, Tryd.f76, w1, hc, w2]
noncomputable def glUp : List TV → Option TV
 | [.int .i64 a, .int .i64 b] => if 0 < b ∧ -4000000000000000000 ≤ a ∧ a ≤ 4000000000000000000 then some (.int .i64 (-((-a) / b))) else none
 | _ => none
theorem glUp_ok : ∀ xs r, glUp xs = some r → PCalls Tryd.prog 76 xs r := by
 intro xs r h
 unfold glUp at h
 split at h
 ·split at h
  ·rename_i hc; cases h; exact lUp_c _ _ hc.1 hc.2
  ·cases h
 ·cases h
attribute [go_sem] glUp
noncomputable def spC1u : Pm.Spec := spC1.one 76 glUp
@[go_sem] theorem spC1u_p (f : FuncId) (xs : List TV) : spC1u.p f xs = Pm.Spec.p (spC1.one 76 glUp) f xs := rfl
@[go_sem] theorem spC1u_h (f : FuncId) (ps : List PV) (hl : List PO) : spC1u.h f ps hl = Pm.Spec.h (spC1.one 76 glUp) f ps hl := rfl
@[go_sem] theorem spC1u_y (Y : Pm.YS) (f : FuncId) (ps : List PV) (hl : List PO) : spC1u.y Y f ps hl = Pm.Spec.y (spC1.one 76 glUp) Y f ps hl := rfl
@[go_sem] theorem spC1u_fz (f : FuncId) : spC1u.fz f = Pm.Spec.fz (spC1.one 76 glUp) f := rfl
@[go_sem] theorem spC1u_fr (f : FuncId) : spC1u.fr f = Pm.Spec.fr (spC1.one 76 glUp) f := rfl
@[go_sem] theorem spC1u_yf (f : FuncId) : spC1u.yf f = Pm.Spec.yf (spC1.one 76 glUp) f := rfl
@[go_sem] theorem spC1u_gd : spC1u.gd = Pm.Spec.gd (spC1.one 76 glUp) := rfl
@[go_sem] theorem spC1u_mu (t : TypeId) : spC1u.mu t = Pm.Spec.mu (spC1.one 76 glUp) t := rfl
@[go_sem] theorem spC1u_nf (t : TypeId) : spC1u.nf t = Pm.Spec.nf (spC1.one 76 glUp) t := rfl
theorem spC1u_ok : SpecOk Tryd.prog spC1u := Spec.one_ok glUp_ok spC1_ok
def clicksP (t : Span) (worth bound : Int) : Int × Int :=
 if spannedB t (-1000000) 1000000 = true ∧ inB worth 1 100 = true ∧ inB bound 0 1000000 = true then
  (if -((-(-bound - t.lo)) / worth) > (bound - t.hi) / worth then (0, 4) else if -((-(-bound - t.lo)) / worth) > 0 then (-((-(-bound - t.lo)) / worth), 0) else if (bound - t.hi) / worth < 0 then ((bound - t.hi) / worth, 0) else (0, 0))
 else (0, 7)
theorem lClicks_c (t : Span) (worth bound : Int) : PCalls Tryd.prog 25 [t.t, .int .i64 worth, .int .i64 bound] (.tup [.int .i64 (clicksP t worth bound).1, .int .i64 (clicksP t worth bound).2]) := by
 refine pcalls_by Tryd.mixes spC1u_ok (fn := Tryd.f25) Tryd.func25 rfl (by kernel_rfl) (by show 3 ≤ _; decide) ?_
 unfold clicksP
 cases h1 : spannedB t (-1000000) 1000000 with
 | false => simp (decide := true) (maxSteps := 4000000) only [go_sem, Nat.reduceAdd, Nat.reduceSub, Nat.reduceMul, Nat.reduceDiv, Nat.reduceMod, Nat.reduceLT, Nat.reduceLeDiff, Nat.reduceEqDiff, Nat.reduceBEq, Nat.reduceBNe, Nat.reduceGT, Int.reduceAdd, Int.reduceSub, Int.reduceMul, Int.reduceNeg, Int.reduceLT, Int.reduceLE, Int.reduceEq, Int.reduceNe, Int.reduceBEq, Int.reduceBNe, Int.reduceToNat, Int.reduceGT, Int.reduceGE, ↓reduceIte, decide_true, decide_false, Tryd.f25, Span.t, Span.cs, h1]
 | true =>
  cases h2 : inB worth 1 100 with
  | false => simp (decide := true) (maxSteps := 4000000) only [go_sem, Nat.reduceAdd, Nat.reduceSub, Nat.reduceMul, Nat.reduceDiv, Nat.reduceMod, Nat.reduceLT, Nat.reduceLeDiff, Nat.reduceEqDiff, Nat.reduceBEq, Nat.reduceBNe, Nat.reduceGT, Int.reduceAdd, Int.reduceSub, Int.reduceMul, Int.reduceNeg, Int.reduceLT, Int.reduceLE, Int.reduceEq, Int.reduceNe, Int.reduceBEq, Int.reduceBNe, Int.reduceToNat, Int.reduceGT, Int.reduceGE, ↓reduceIte, decide_true, decide_false, Tryd.f25, Span.t, Span.cs, h1, h2]
  | true =>
   cases h3 : inB bound 0 1000000 with
   | false => simp (decide := true) (maxSteps := 4000000) only [go_sem, Nat.reduceAdd, Nat.reduceSub, Nat.reduceMul, Nat.reduceDiv, Nat.reduceMod, Nat.reduceLT, Nat.reduceLeDiff, Nat.reduceEqDiff, Nat.reduceBEq, Nat.reduceBNe, Nat.reduceGT, Int.reduceAdd, Int.reduceSub, Int.reduceMul, Int.reduceNeg, Int.reduceLT, Int.reduceLE, Int.reduceEq, Int.reduceNe, Int.reduceBEq, Int.reduceBNe, Int.reduceToNat, Int.reduceGT, Int.reduceGE, ↓reduceIte, decide_true, decide_false, Tryd.f25, Span.t, Span.cs, h1, h2, h3]
   | true =>
    have h1' := h1
    have h2' := inB_iff.1 h2
    have h3' := inB_iff.1 h3
    simp only [spannedB, Bool.and_eq_true, decide_eq_true_eq] at h1'
    have w0 : IntKind.i64.wrap (0 - bound) = -bound := by rw [wrap_in (by omega) (by omega)]; omega
    have w1 : IntKind.i64.wrap (-bound - t.lo) = -bound - t.lo := wrap_in (by omega) (by omega)
    have w2 : IntKind.i64.wrap (bound - t.hi) = bound - t.hi := wrap_in (by omega) (by omega)
    have c1 : 0 < worth ∧ -4000000000000000000 ≤ -bound - t.lo ∧ -bound - t.lo ≤ 4000000000000000000 := by omega
    have c2 : 0 < worth ∧ -4000000000000000000 ≤ bound - t.hi ∧ bound - t.hi ≤ 4000000000000000000 := by omega
    by_cases g1 : -((-(-bound - t.lo)) / worth) > (bound - t.hi) / worth
    ·simp (decide := true) (maxSteps := 4000000) only [go_sem, Nat.reduceAdd, Nat.reduceSub, Nat.reduceMul, Nat.reduceDiv, Nat.reduceMod, Nat.reduceLT, Nat.reduceLeDiff, Nat.reduceEqDiff, Nat.reduceBEq, Nat.reduceBNe, Nat.reduceGT, Int.reduceAdd, Int.reduceSub, Int.reduceMul, Int.reduceNeg, Int.reduceLT, Int.reduceLE, Int.reduceEq, Int.reduceNe, Int.reduceBEq, Int.reduceBNe, Int.reduceToNat, Int.reduceGT, Int.reduceGE, ↓reduceIte, decide_true, decide_false, Tryd.f25, Span.t, Span.cs, h1, h2, h3, w0, w1, w2, c1, c2, g1]
    ·by_cases g2 : -((-(-bound - t.lo)) / worth) > 0
     ·simp (decide := true) (maxSteps := 4000000) only [go_sem, Nat.reduceAdd, Nat.reduceSub, Nat.reduceMul, Nat.reduceDiv, Nat.reduceMod, Nat.reduceLT, Nat.reduceLeDiff, Nat.reduceEqDiff, Nat.reduceBEq, Nat.reduceBNe, Nat.reduceGT, Int.reduceAdd, Int.reduceSub, Int.reduceMul, Int.reduceNeg, Int.reduceLT, Int.reduceLE, Int.reduceEq, Int.reduceNe, Int.reduceBEq, Int.reduceBNe, Int.reduceToNat, Int.reduceGT, Int.reduceGE, ↓reduceIte, decide_true, decide_false, Tryd.f25, Span.t, Span.cs, h1, h2, h3, w0, w1, w2, c1, c2, g1, g2]
     ·by_cases g3 : (bound - t.hi) / worth < 0 <;> simp (decide := true) (maxSteps := 4000000) only [go_sem, Nat.reduceAdd, Nat.reduceSub, Nat.reduceMul, Nat.reduceDiv, Nat.reduceMod, Nat.reduceLT, Nat.reduceLeDiff, Nat.reduceEqDiff, Nat.reduceBEq, Nat.reduceBNe, Nat.reduceGT, Int.reduceAdd, Int.reduceSub, Int.reduceMul, Int.reduceNeg, Int.reduceLT, Int.reduceLE, Int.reduceEq, Int.reduceNe, Int.reduceBEq, Int.reduceBNe, Int.reduceToNat, Int.reduceGT, Int.reduceGE, ↓reduceIte, decide_true, decide_false, Tryd.f25, Span.t, Span.cs, h1, h2, h3, w0, w1, w2, c1, c2, g1, g2, g3]
end Go.Proofs.YtlonlnfenbadbaaDoor.Lv

/- Part LTop. -/
namespace Go.Oc.Lv
end Go.Oc.Lv
namespace Go.Proofs.YtlonlnfenbadbaaDoor.Lv
end Go.Proofs.YtlonlnfenbadbaaDoor.Lv
namespace Go.Proofs.YtlonlnfenbadbaaDoor.Lv
open Go.RowKit Go.Pm Go.Oc Go.Oc.Lv
set_option maxRecDepth 100000
set_option linter.unusedVariables false

noncomputable def glTilt : List TV → Option TV
 | [.agg [.int .i64 m, .int .i64 a, .int .i64 b, .int .i64 c, .int .i64 d, .int .i64 e, .int .i64 f, .int .i64 g], s] => match rowL unRds s with
  | some l => if l.length ≤ 5864062014806 then some ((tiltR ⟨m, a, b, c, d, e, f, g⟩ l).t) else none
  | none => none
 | _ => none
theorem glTilt_ok : ∀ xs r, glTilt xs = some r → PCalls Tryd.prog 23 xs r := by
 intro xs r h
 unfold glTilt at h
 split at h
 ·split at h
  ·rename_i l hl
   have hl := rowL_some (un := unRds) (by first | rfl | exact unRds_nil) (@unRds_some) hl
   split at h
   ·rename_i hc; cases h; exact lTilt_c ⟨_, _, _, _, _, _, _, _⟩ hl hc
   ·cases h
  ·cases h
 ·cases h
attribute [go_sem] glTilt
noncomputable def glCan : List TV → Option TV
 | [.agg [.int .i64 m, .int .i64 a, .int .i64 b, .int .i64 c, .int .i64 d, .int .i64 e, .int .i64 f, .int .i64 g], s, .agg [.int .i64 tv, .int .i64 tz, .int .i64 tt]] => match rowL unRds s with
  | some l => if l.length ≤ 5864062014806 then some (.tup [.bool (canP ⟨m, a, b, c, d, e, f, g⟩ l tv tz tt).1, .int .i64 (canP ⟨m, a, b, c, d, e, f, g⟩ l tv tz tt).2]) else none
  | none => none
 | _ => none
theorem glCan_ok : ∀ xs r, glCan xs = some r → PCalls Tryd.prog 22 xs r := by
 intro xs r h
 unfold glCan at h
 split at h
 ·split at h
  ·rename_i l hl
   have hl := rowL_some (un := unRds) (by first | rfl | exact unRds_nil) (@unRds_some) hl
   split at h
   ·rename_i hc; cases h; exact lCan_c ⟨_, _, _, _, _, _, _, _⟩ hl hc _ _ _
   ·cases h
  ·cases h
 ·cases h
attribute [go_sem] glCan
noncomputable def glClicks : List TV → Option TV
 | [.agg [.int .i64 a, .int .i64 b], .int .i64 w, .int .i64 c] => some (.tup [.int .i64 (clicksP ⟨a, b⟩ w c).1, .int .i64 (clicksP ⟨a, b⟩ w c).2])
 | _ => none
theorem glClicks_ok : ∀ xs r, glClicks xs = some r → PCalls Tryd.prog 25 xs r := by
 intro xs r h
 unfold glClicks at h
 split at h
 ·cases h; exact lClicks_c ⟨_, _⟩ _ _
 ·cases h
attribute [go_sem] glClicks
end Go.Proofs.YtlonlnfenbadbaaDoor.Lv

/- Part Ln. -/
namespace Go.Oc.Lv
end Go.Oc.Lv
namespace Go.Proofs.YtlonlnfenbadbaaDoor.Lv
end Go.Proofs.YtlonlnfenbadbaaDoor.Lv
namespace Go.Oc.Lv
open Go Go.Pm Go.Proofs.YtlonlnfenbadbaaDoor.Lv

theorem snoc_ind {α : Type} {p : List α → Prop} (h0 : p []) (h1 : ∀ l x, p l → p (l ++ [x])) (l : List α) : p l := by
 have : ∀ l : List α, p l.reverse := by
  intro l
  induction l with
  | nil => exact h0
  | cons x l ih => rw [List.reverse_cons]; exact h1 _ _ ih
 simpa using this l.reverse
theorem max_mul_le {a b c t : Int} (hc : 0 ≤ c) : max a b * c ≤ t ↔ a * c ≤ t ∧ b * c ≤ t := by
 rcases Int.le_total a b with h | h
 ·rw [Int.max_eq_right h]
  have := Int.mul_le_mul_of_nonneg_right h hc
  constructor
  ·intro h; omega
  ·intro h; exact h.2
 ·rw [Int.max_eq_left h]
  have := Int.mul_le_mul_of_nonneg_right h hc
  constructor
  ·intro h; omega
  ·intro h; exact h.1
theorem le_min_mul {a b c t : Int} (hc : 0 ≤ c) : t ≤ min a b * c ↔ t ≤ a * c ∧ t ≤ b * c := by
 rcases Int.le_total a b with h | h
 ·rw [Int.min_eq_left h]
  have := Int.mul_le_mul_of_nonneg_right h hc
  constructor
  ·intro h; omega
  ·intro h; exact h.1
 ·rw [Int.min_eq_right h]
  have := Int.mul_le_mul_of_nonneg_right h hc
  constructor
  ·intro h; omega
  ·intro h; exact h.2
theorem fold_in_iff {w z c t : Int} (hc : 0 ≤ c) : ∀ (l : List Mk) (s : Span),
  ((l.foldl (inS w z) s).lo * c ≤ t ∧ t ≤ (l.foldl (inS w z) s).hi * c) ↔ (s.lo * c ≤ t ∧ t ≤ s.hi * c) ∧ ∀ m ∈ l, (outM m z - w) * c ≤ t ∧ t ≤ (outM m z + w) * c
 | [], s => by simp
 | m :: l, s => by
  rw [List.foldl_cons, fold_in_iff hc l (inS w z s m)]
  simp only [inS, max_mul_le hc, le_min_mul hc, List.forall_mem_cons]
  constructor
  ·rintro ⟨⟨⟨a, b⟩, c, d⟩, e⟩; exact ⟨⟨a, c⟩, ⟨b, d⟩, e⟩
  ·rintro ⟨⟨a, c⟩, ⟨b, d⟩, e⟩; exact ⟨⟨⟨a, b⟩, c, d⟩, e⟩
theorem outM_b {m : Mk} {z : Int} (hm : inB m.at' 0 400 = true) (hz : 0 ≤ z ∧ z ≤ 400) : -400 ≤ outM m z ∧ outM m z ≤ 400 := by
 have := inB_iff.1 hm
 unfold outM; split <;> omega
theorem within_can {v : Vial} (hv : v.ok = true) {l : List Mk} (hm : mksOk l = true) (h1 : 1 ≤ l.length) {tv tz tt : Int} (h2 : v.v0 ≤ tv) (h3 : tv ≤ v.v1) (h4 : v.z0 ≤ tz) (h5 : tz ≤ v.z1) :
  (decide ((withinS v.wr l tz).lo ≤ (withinS v.wr l tz).hi) && inB tt ((withinS v.wr l tz).lo * tv) ((withinS v.wr l tz).hi * tv)) = canB v l tv tz tt := by
 have hv' := Vial.ok_iff.1 hv
 have key := fold_in_iff (w := v.wr) (z := tz) (c := tv) (t := tt) (by omega) l ⟨-10000, 10000⟩
 rw [show l.foldl (inS v.wr tz) ⟨-10000, 10000⟩ = withinS v.wr l tz from rfl] at key
 rw [Bool.eq_iff_iff]
 simp only [Bool.and_eq_true, decide_eq_true_eq, inB_iff, canB, List.all_eq_true]
 have hc : ∀ m : Mk, (outM m tz - v.wr) * tv = tv * (outM m tz - v.wr) ∧ (outM m tz + v.wr) * tv = tv * (outM m tz + v.wr) := fun m => ⟨Int.mul_comm _ _, Int.mul_comm _ _⟩
 constructor
 ·rintro ⟨_, h⟩ m hm'
  have := (key.1 h).2 m hm'
  rw [(hc m).1, (hc m).2] at this
  exact this
 ·intro h
  have hall : ∀ m ∈ l, (outM m tz - v.wr) * tv ≤ tt ∧ tt ≤ (outM m tz + v.wr) * tv := fun m hm' => by rw [(hc m).1, (hc m).2]; exact h m hm'
  have hs : (-10000 * tv ≤ tt ∧ tt ≤ 10000 * tv) := by
   obtain ⟨m, hm'⟩ : ∃ m, m ∈ l := by cases l with | nil => simp at h1 | cons m _ => exact ⟨m, List.mem_cons_self⟩
   have ho := outM_b (z := tz) (List.all_eq_true.1 hm m hm') (by omega)
   have := hall m hm'
   have a1 := Int.mul_le_mul_of_nonneg_right (c := tv) (show (-10000 : Int) ≤ outM m tz - v.wr by omega) (by omega)
   have a2 := Int.mul_le_mul_of_nonneg_right (c := tv) (show outM m tz + v.wr ≤ (10000 : Int) by omega) (by omega)
   omega
  have h' := key.2 ⟨hs, hall⟩
  refine ⟨?_, h'⟩
  have : (withinS v.wr l tz).lo * tv ≤ (withinS v.wr l tz).hi * tv := by omega
  exact Int.le_of_mul_le_mul_right this (by omega)
def feas (v : Vial) (l : List Mk) (z : Int) : Prop := (v.z0 ≤ z ∧ z ≤ v.z1) ∧ (withinS v.wr l z).lo ≤ (withinS v.wr l z).hi
theorem zerosOf_feas {v : Vial} {l : List Mk} {y : Int × Span} : y ∈ zerosOf v l (allZ v) ↔ y.2 = withinS v.wr l y.1 ∧ feas v l y.1 := by
 constructor
 ·intro h
  obtain ⟨a, b, c, d⟩ := zerosOf_mem h
  exact ⟨a, ⟨c, d⟩, by rw [← a]; exact b⟩
 ·rintro ⟨a, ⟨c, d⟩, b⟩
  unfold zerosOf allZ range
  simp only [List.mem_filterMap, List.mem_map, List.mem_range]
  refine ⟨y.1, ⟨(y.1 - v.z0).toNat, by omega, by omega⟩, ?_⟩
  rw [if_pos b, ← a]
structure Has (v : Vial) (ys : List (Int × Span)) (x : TZ) : Prop where
 is : x.is = true ↔ ys ≠ []
 lo : ∀ y ∈ ys, x.tilt.lo ≤ leastP v y.2.lo
 hi : ∀ y ∈ ys, mostP v y.2.hi ≤ x.tilt.hi
 loAt : ys ≠ [] → ∃ y ∈ ys, x.tilt.lo = leastP v y.2.lo
 hiAt : ys ≠ [] → ∃ y ∈ ys, x.tilt.hi = mostP v y.2.hi
 zlo : ys ≠ [] → ∃ y ∈ ys, x.zero.lo = y.1
 zhi : ys ≠ [] → ∃ y ∈ ys, x.zero.hi = y.1
theorem has_snoc {v : Vial} {ys : List (Int × Span)} {x : TZ} (h : Has v ys x) (y : Int × Span) : Has v (ys ++ [y]) (tiltStep v x y) := by
 by_cases hi : x.is = true
 ·have hn := h.is.1 hi
  have e : tiltStep v x y = ⟨⟨min x.tilt.lo (leastP v y.2.lo), max x.tilt.hi (mostP v y.2.hi)⟩, ⟨x.zero.lo, y.1⟩, true⟩ := by unfold tiltStep; rw [if_pos hi]
  rw [e]
  refine ⟨by simp, ?_, ?_, fun _ => ?_, fun _ => ?_, fun _ => ?_, fun _ => ⟨y, by simp, rfl⟩⟩
  ·intro w hw
   rcases List.mem_append.1 hw with hw | hw
   ·have := h.lo w hw; simp only; omega
   ·cases List.mem_singleton.1 hw; simp only; omega
  ·intro w hw
   rcases List.mem_append.1 hw with hw | hw
   ·have := h.hi w hw; simp only; omega
   ·cases List.mem_singleton.1 hw; simp only; omega
  ·obtain ⟨w, hw, ew⟩ := h.loAt hn
   rcases Int.le_total x.tilt.lo (leastP v y.2.lo) with hl | hl
   ·exact ⟨w, List.mem_append_left _ hw, by simp only; omega⟩
   ·exact ⟨y, by simp, by simp only; omega⟩
  ·obtain ⟨w, hw, ew⟩ := h.hiAt hn
   rcases Int.le_total x.tilt.hi (mostP v y.2.hi) with hl | hl
   ·exact ⟨y, by simp, by simp only; omega⟩
   ·exact ⟨w, List.mem_append_left _ hw, by simp only; omega⟩
  ·obtain ⟨w, hw, ew⟩ := h.zlo hn
   exact ⟨w, List.mem_append_left _ hw, ew⟩
 ·have hn : ys = [] := by
   rcases List.eq_nil_or_concat ys with h0 | ⟨_, _, h0⟩
   ·exact h0
   ·exact absurd (h.is.2 (by rw [h0]; simp)) hi
  subst hn
  have e : tiltStep v x y = ⟨⟨leastP v y.2.lo, mostP v y.2.hi⟩, ⟨y.1, y.1⟩, true⟩ := by unfold tiltStep; rw [if_neg hi]
  rw [e]
  exact ⟨by simp, by simp, by simp, by simp, by simp, by simp, by simp⟩
theorem has_fold (v : Vial) : ∀ ys : List (Int × Span), Has v ys (tiltsOf v ys) := by
 refine snoc_ind ⟨by simp [tiltsOf], by simp, by simp, by simp, by simp, by simp, by simp⟩ fun ys y ih => ?_
 unfold tiltsOf at ih ⊢
 rw [List.foldl_append]
 exact has_snoc ih y
theorem tilts_is {v : Vial} {l : List Mk} : (tilts v l).is = true ↔ ∃ z, feas v l z := by
 have h := has_fold v (zerosOf v l (allZ v))
 rw [show tilts v l = tiltsOf v (zerosOf v l (allZ v)) from rfl, h.is]
 constructor
 ·intro hn
  obtain ⟨y, hy⟩ := List.exists_mem_of_ne_nil _ hn
  exact ⟨y.1, (zerosOf_feas.1 hy).2⟩
 ·rintro ⟨z, hz⟩ hn
  have : (z, withinS v.wr l z) ∈ zerosOf v l (allZ v) := zerosOf_feas.2 ⟨rfl, hz⟩
  rw [hn] at this; cases this
theorem tilts_lo {v : Vial} {l : List Mk} {z : Int} (h : feas v l z) : (tilts v l).tilt.lo ≤ leastP v (withinS v.wr l z).lo :=
 (has_fold v (zerosOf v l (allZ v))).lo (z, withinS v.wr l z) (zerosOf_feas.2 ⟨rfl, h⟩)
theorem tilts_hi {v : Vial} {l : List Mk} {z : Int} (h : feas v l z) : mostP v (withinS v.wr l z).hi ≤ (tilts v l).tilt.hi :=
 (has_fold v (zerosOf v l (allZ v))).hi (z, withinS v.wr l z) (zerosOf_feas.2 ⟨rfl, h⟩)
theorem allZ_sorted (v : Vial) : (allZ v).Pairwise (· < ·) := by
 unfold allZ range
 rw [List.pairwise_map]
 exact List.Pairwise.imp (fun h => by omega) List.pairwise_lt_range
theorem zerosOf_sorted (v : Vial) (l : List Mk) : (zerosOf v l (allZ v)).Pairwise (fun a b => a.1 < b.1) := by
 unfold zerosOf
 refine List.Pairwise.filterMap _ ?_ (allZ_sorted v)
 intro a b hab x hx y hy
 simp only [Option.mem_def] at hx hy
 split at hx <;> cases hx
 split at hy <;> cases hy
 exact hab
theorem ord_fold (v : Vial) : ∀ ys : List (Int × Span), ys.Pairwise (fun a b => a.1 < b.1) → ∀ y ∈ ys, (tiltsOf v ys).zero.lo ≤ y.1 ∧ y.1 ≤ (tiltsOf v ys).zero.hi := by
 refine snoc_ind (fun _ y h => by cases h) fun ys x ih => ?_
 ·intro hp
  rw [List.pairwise_append] at hp
  obtain ⟨h1, _, h3⟩ := hp
  have ih := ih h1
  have hlast : ∀ w ∈ ys, w.1 < x.1 := fun w hw => h3 w hw x (by simp)
  have hf := has_fold v ys
  have e : tiltsOf v (ys ++ [x]) = tiltStep v (tiltsOf v ys) x := by unfold tiltsOf; rw [List.foldl_append]; rfl
  rw [e]
  by_cases hi : (tiltsOf v ys).is = true
  ·have hn := hf.is.1 hi
   obtain ⟨w0, hw0, _⟩ := hf.zlo hn
   have h0 := ih w0 hw0
   have h0' := hlast w0 hw0
   unfold tiltStep
   rw [if_pos hi]
   intro y hy
   rcases List.mem_append.1 hy with hy | hy
   ·have := ih y hy; have := hlast y hy; simp only; omega
   ·cases List.mem_singleton.1 hy; simp only; omega
  ·have hn : ys = [] := by
    rcases List.eq_nil_or_concat ys with h0 | ⟨_, _, h0⟩
    ·exact h0
    ·exact absurd (hf.is.2 (by rw [h0]; simp)) hi
   subst hn
   unfold tiltStep
   rw [if_neg hi]
   intro y hy
   cases List.mem_singleton.1 hy
   simp
theorem tilts_zero {v : Vial} {l : List Mk} {z : Int} (h : feas v l z) : (tilts v l).zero.lo ≤ z ∧ z ≤ (tilts v l).zero.hi :=
 ord_fold v _ (zerosOf_sorted v l) (z, withinS v.wr l z) (zerosOf_feas.2 ⟨rfl, h⟩)
theorem bubble {v : Vial} (hv : v.ok = true) {l : List Mk} (hm : mksOk l = true) (h1 : 1 ≤ l.length) {tv tz tt : Int} (h2 : v.v0 ≤ tv) (h3 : tv ≤ v.v1) (h4 : v.z0 ≤ tz) (h5 : tz ≤ v.z1) (hc : canB v l tv tz tt = true) :
  (tilts v l).is = true ∧ (tilts v l).tilt.lo ≤ tt ∧ tt ≤ (tilts v l).tilt.hi ∧ (tilts v l).zero.lo ≤ tz ∧ tz ≤ (tilts v l).zero.hi := by
 rw [← within_can hv hm h1 h2 h3 h4 h5, Bool.and_eq_true, decide_eq_true_eq, inB_iff] at hc
 have hf : feas v l tz := ⟨⟨h4, h5⟩, hc.1⟩
 have hv' := Vial.ok_iff.1 hv
 have a := tilts_lo hf
 have b := tilts_hi hf
 have c := tilts_zero hf
 have lo1 : leastP v (withinS v.wr l tz).lo ≤ (withinS v.wr l tz).lo * tv := by
  unfold leastP
  rcases Int.le_total 0 (withinS v.wr l tz).lo with h | h
  ·have := Int.mul_le_mul_of_nonneg_left h2 h; omega
  ·have := Int.mul_le_mul_of_nonpos_left h h3; omega
 have hi1 : (withinS v.wr l tz).hi * tv ≤ mostP v (withinS v.wr l tz).hi := by
  unfold mostP
  rcases Int.le_total 0 (withinS v.wr l tz).hi with h | h
  ·have := Int.mul_le_mul_of_nonneg_left h3 h; omega
  ·have := Int.mul_le_mul_of_nonpos_left h h2; omega
 exact ⟨tilts_is.2 ⟨tz, hf⟩, by omega, by omega, c.1, c.2⟩
end Go.Oc.Lv

/- Part Lop. -/
namespace Go.Oc.Lv
end Go.Oc.Lv
namespace Go.Proofs.YtlonlnfenbadbaaDoor.Lv
end Go.Proofs.YtlonlnfenbadbaaDoor.Lv
namespace Go.Proofs.YtlonlnfenbadbaaDoor.Lv
open Go.RowKit Go.Pm Go.Oc Go.Oc.Lv
set_option maxRecDepth 100000
set_option linter.unusedVariables false
set_option maxHeartbeats 4000000

theorem can_tilt (v : Vial) (l : List Rd) (tv tz tt : Int) :
  ((canP v l tv tz tt).2 ≠ 0 ∧ (canP v l tv tz tt).1 = false ∧ ((tiltR v l).e = (canP v l tv tz tt).2 ∨ (canP v l tv tz tt).2 = 32)) ∨
  ((canP v l tv tz tt).2 = 0 ∧ (tiltR v l).e = 33 ∧ (canP v l tv tz tt).1 = false ∧ (tiltR v l).tilt = ⟨0, 0⟩ ∧ (tiltR v l).zero = ⟨0, 0⟩) ∨
  ((canP v l tv tz tt).2 = 0 ∧ (tiltR v l).e = 0 ∧ ((canP v l tv tz tt).1 = true → ((tiltR v l).tilt.lo ≤ tt ∧ tt ≤ (tiltR v l).tilt.hi) ∧ (tiltR v l).zero.lo ≤ tz ∧ tz ≤ (tiltR v l).zero.hi)) := by
 unfold canP tiltR
 by_cases hk : asked v l = 0
 ·obtain ⟨hv, hr⟩ := asked_zero hk
  have hm := mksOk_mid hv hr
  have h8 := rdsOk_len hr
  rw [if_pos hk, if_pos hk]
  by_cases h1 : inB tv v.v0 v.v1 = true ∧ inB tz v.z0 v.z1 = true
  ·rw [if_pos h1]
   have hb := fun hc => bubble hv hm (by rw [List.length_map]; omega) (inB_iff.1 h1.1).1 (inB_iff.1 h1.1).2 (inB_iff.1 h1.2).1 (inB_iff.1 h1.2).2 (tt := tt) hc
   cases hi : (tilts v (l.map mid)).is with
   | false =>
    refine .inr (.inl ⟨rfl, rfl, ?_, rfl, rfl⟩)
    cases hc : canB v (l.map mid) tv tz tt with
    | false => rfl
    | true => rw [(hb hc).1] at hi; cases hi
   | true => exact .inr (.inr ⟨rfl, rfl, fun hc => ⟨⟨(hb hc).2.1, (hb hc).2.2.1⟩, (hb hc).2.2.2⟩⟩)
  ·rw [if_neg h1]
   exact .inl ⟨by simp, rfl, .inr rfl⟩
 ·rw [if_neg hk, if_neg hk]
  exact .inl ⟨hk, rfl, .inl rfl⟩
end Go.Proofs.YtlonlnfenbadbaaDoor.Lv

/- Part Lq. -/
namespace Go.Oc.Lv
end Go.Oc.Lv
namespace Go.Proofs.YtlonlnfenbadbaaDoor.Lv
end Go.Proofs.YtlonlnfenbadbaaDoor.Lv
namespace Go.Oc.Lv
open Go Go.Pm

theorem tiltStep_bound {v : Vial} (hv : v.ok = true) {x : TZ} {y : Int × Span} (hx : -5000000 ≤ x.tilt.lo ∧ x.tilt.lo ≤ 5000000 ∧ -5000000 ≤ x.tilt.hi ∧ x.tilt.hi ≤ 5000000) (h1 : -10000 ≤ y.2.lo ∧ y.2.lo ≤ 10000) (h2 : -10000 ≤ y.2.hi ∧ y.2.hi ≤ 10000) :
  -5000000 ≤ (tiltStep v x y).tilt.lo ∧ (tiltStep v x y).tilt.lo ≤ 5000000 ∧ -5000000 ≤ (tiltStep v x y).tilt.hi ∧ (tiltStep v x y).tilt.hi ≤ 5000000 := by
 have hv' := Vial.ok_iff.1 hv
 have p1 := mulB (a := y.2.lo) (b := v.v0) (by omega) (by omega)
 have p2 := mulB (a := y.2.lo) (b := v.v1) (by omega) (by omega)
 have p3 := mulB (a := y.2.hi) (b := v.v0) (by omega) (by omega)
 have p4 := mulB (a := y.2.hi) (b := v.v1) (by omega) (by omega)
 unfold tiltStep leastP mostP
 split <;> simp only <;> omega
theorem tiltsOf_bound {v : Vial} (hv : v.ok = true) : ∀ {ys : List (Int × Span)} {x : TZ}, (-5000000 ≤ x.tilt.lo ∧ x.tilt.lo ≤ 5000000 ∧ -5000000 ≤ x.tilt.hi ∧ x.tilt.hi ≤ 5000000) → (∀ y ∈ ys, (-10000 ≤ y.2.lo ∧ y.2.lo ≤ 10000) ∧ (-10000 ≤ y.2.hi ∧ y.2.hi ≤ 10000)) →
  -5000000 ≤ (ys.foldl (tiltStep v) x).tilt.lo ∧ (ys.foldl (tiltStep v) x).tilt.lo ≤ 5000000 ∧ -5000000 ≤ (ys.foldl (tiltStep v) x).tilt.hi ∧ (ys.foldl (tiltStep v) x).tilt.hi ≤ 5000000
 | [], x, h, _ => h
 | y :: ys, x, h, hy => tiltsOf_bound hv (ys := ys) (x := tiltStep v x y) (tiltStep_bound hv h (hy y List.mem_cons_self).1 (hy y List.mem_cons_self).2) fun z hz => hy z (List.mem_cons_of_mem _ hz)
theorem zerosOf_mem {v : Vial} {l : List Mk} {y : Int × Span} (h : y ∈ zerosOf v l (allZ v)) : y.2 = withinS v.wr l y.1 ∧ y.2.lo ≤ y.2.hi ∧ v.z0 ≤ y.1 ∧ y.1 ≤ v.z1 := by
 unfold zerosOf allZ range at h
 simp only [List.mem_filterMap, List.mem_map, List.mem_range] at h
 obtain ⟨z, ⟨k, hk, rfl⟩, h⟩ := h
 split at h
 ·rename_i hle; cases h; exact ⟨rfl, hle, by simp only; omega, by simp only; omega⟩
 ·cases h
theorem tilts_bound {v : Vial} {l : List Mk} (hv : v.ok = true) (hm : mksOk l = true) : -5000000 ≤ (tilts v l).tilt.lo ∧ (tilts v l).tilt.lo ≤ 5000000 ∧ -5000000 ≤ (tilts v l).tilt.hi ∧ (tilts v l).tilt.hi ≤ 5000000 := by
 have hv' := Vial.ok_iff.1 hv
 refine tiltsOf_bound hv (by simp) fun y hy => ?_
 obtain ⟨h1, h2, h3, h4⟩ := zerosOf_mem hy
 have hb := withinS_bound (w := v.wr) (z := y.1) (by omega) (by omega) (l := l) (s := ⟨-10000, 10000⟩) hm (by simp)
 have hwi : withinS v.wr l y.1 = l.foldl (inS v.wr y.1) ⟨-10000, 10000⟩ := rfl
 rw [← hwi, ← h1] at hb
 omega
end Go.Oc.Lv

/- Part Mbp. -/
namespace Go.Oc.Lv
end Go.Oc.Lv
namespace Go.Proofs.YtlonlnfenbadbaaDoor.Lv
end Go.Proofs.YtlonlnfenbadbaaDoor.Lv
namespace Go.Oc.Lv
open Go Go.Pm Go.Proofs.YtlonlnfenbadbaaDoor.Lv
theorem up_le {a w k : Int} (hw : 0 < w) : -((-a) / w) ≤ k ↔ a ≤ k * w := by
 have h := Int.le_ediv_iff_mul_le (a := -k) (b := -a) (c := w) hw
 rw [Int.neg_mul] at h
 omega
theorem le_down {a w k : Int} (hw : 0 < w) : k ≤ a / w ↔ k * w ≤ a := Int.le_ediv_iff_mul_le hw
theorem clicks_law (t : Span) (w b : Int) :
  (clicksP t w b = (0, 7)) ∨
  ((-1000000 ≤ t.lo ∧ t.lo ≤ t.hi ∧ t.hi ≤ 1000000) ∧ (1 ≤ w ∧ w ≤ 100) ∧ (0 ≤ b ∧ b ≤ 1000000) ∧
   ((clicksP t w b = (0, 4) ∧ ∀ k : Int, ¬ (-b ≤ t.lo + k * w ∧ t.hi + k * w ≤ b)) ∨
    ((clicksP t w b).2 = 0 ∧ (-b ≤ t.lo + (clicksP t w b).1 * w ∧ t.hi + (clicksP t w b).1 * w ≤ b) ∧
     ∀ k : Int, (-b ≤ t.lo + k * w ∧ t.hi + k * w ≤ b) → max k (-k) > max (clicksP t w b).1 (-(clicksP t w b).1) ∨ max k (-k) = max (clicksP t w b).1 (-(clicksP t w b).1) ∧ k ≤ (clicksP t w b).1))) := by
 unfold clicksP
 split
 ·rename_i hc
  obtain ⟨h1, h2, h3⟩ := hc
  rw [inB_iff] at h2 h3
  simp only [spannedB, Bool.and_eq_true, decide_eq_true_eq] at h1
  have hw : 0 < w := by omega
  have iL : ∀ k : Int, -((-(-b - t.lo)) / w) ≤ k ↔ -b - t.lo ≤ k * w := fun k => up_le hw
  have iM : ∀ k : Int, k ≤ (b - t.hi) / w ↔ k * w ≤ b - t.hi := fun k => le_down hw
  generalize -((-(-b - t.lo)) / w) = L at iL ⊢
  generalize (b - t.hi) / w = M at iM ⊢
  refine .inr ⟨by omega, h2, h3, ?_⟩
  have both : ∀ k : Int, (-b ≤ t.lo + k * w ∧ t.hi + k * w ≤ b) ↔ L ≤ k ∧ k ≤ M := fun k => by
   rw [iL k, iM k]; omega
  split
  ·rename_i h
   refine .inl ⟨rfl, fun k hk => ?_⟩
   have := (both k).1 hk; omega
  ·rename_i h
   split
   ·exact .inr ⟨rfl, (both L).2 (by omega), fun k hk => by have := (both k).1 hk; simp only; omega⟩
   ·split
    ·exact .inr ⟨rfl, (both M).2 (by omega), fun k hk => by have := (both k).1 hk; simp only; omega⟩
    ·exact .inr ⟨rfl, (both 0).2 (by omega), fun k hk => by have := (both k).1 hk; simp only; omega⟩
 ·exact .inl rfl
end Go.Oc.Lv

/- Part QmEv. -/
namespace Go.Pm
open Go Go.RowKit

variable {P : Program}

def getB : List (Nat × PV) → Nat → PV
 | [], _ => .junk
 | (d, v) :: l, t => bif Nat.beq d t then v else getB l t
theorem getB_eq : ∀ (l : List (Nat × PV)) (t : Nat), getB l t = getA l t
 | [], _ => rfl
 | (d, v) :: l, t => by
  unfold getB getA
  rw [getB_eq l t]
  by_cases h : d = t
  ·subst h; simp
  ·rw [if_neg h]; have : Nat.beq d t = false := by cases hb : Nat.beq d t with
   | true => exact (h (Nat.eq_of_beq_eq_true hb)).elim
   | false => rfl
   rw [this]; rfl
def evalB (s : CS) : Operand → PV
 | .tmp t => getB s.env t
 | .const v => constP v
 | .func f => .t (.fn f [] [])
 | .global g => globP g
theorem evalB_eq (s : CS) : evalB s = s.eval := by
 funext x; cases x <;> first | rfl | exact getB_eq _ _

def dedE : List (Nat × PV) → List Nat → List (Nat × PV)
 | [], _ => []
 | (d, v) :: l, seen => bif seen.any (Nat.beq d) then dedE l seen else (d, v) :: dedE l (d :: seen)
theorem dedE_get : ∀ (l : List (Nat × PV)) (seen : List Nat) (t : Nat), t ∉ seen → getA (dedE l seen) t = getA l t
 | [], _, _, _ => rfl
 | (d, v) :: l, seen, t, h => by
  unfold dedE
  cases hd : seen.any (Nat.beq d) with
  | true =>
   have hm : d ∈ seen := by
    rw [List.any_eq_true] at hd
    obtain ⟨x, h1, h2⟩ := hd
    have : d = x := by simpa using h2
    rw [this]; exact h1
   have hne : d ≠ t := fun e => h (e ▸ hm)
   simp only [cond_true]
   rw [dedE_get l seen t h]
   show _ = if d = t then v else getA l t
   rw [if_neg hne]
  | false =>
   simp only [cond_false]
   show (if d = t then v else getA (dedE l (d :: seen)) t) = if d = t then v else getA l t
   by_cases e : d = t
   ·rw [if_pos e, if_pos e]
   ·rw [if_neg e, if_neg e]
    exact dedE_get l (d :: seen) t (by simp only [List.mem_cons, not_or]; exact ⟨fun h' => e h'.symm, h⟩)
theorem dedE_keys {n : Nat} : ∀ (l : List (Nat × PV)) (seen : List Nat), keysOk n l = true → keysOk n (dedE l seen) = true
 | [], _, _ => rfl
 | (d, v) :: l, seen, h => by
  simp only [keysOk, List.all_cons, Bool.and_eq_true, decide_eq_true_eq] at h
  unfold dedE
  cases seen.any (Nat.beq d) with
  | true => exact dedE_keys l seen (by simpa [keysOk] using h.2)
  | false =>
   simp only [cond_false, keysOk, List.all_cons, Bool.and_eq_true, decide_eq_true_eq]
   exact ⟨h.1, by have := dedE_keys l (d :: seen) (by simpa [keysOk] using h.2); simpa [keysOk] using this⟩
def comp (s : CS) : CS := { env := dedE s.env [], heap := s.heap }
theorem comp_ps {n : Nat} (s : CS) : toPS n (comp s) = toPS n s := by
 unfold toPS comp
 simp only [PS.mk.injEq, and_true]
 exact List.map_congr_left fun t _ => dedE_get s.env [] t (by simp)

noncomputable def stepE (P : Program) (sp : Spec) (Y : YS) (n : Nat) (ops : Array Oper) (o : Oper) (s : CS) : Option (CS × Foot) :=
 match guardC ops o s with
 | none => none
 | some b => bif sp.gd && !b then some (s.put n o.dst (condW o b .junk) s.heap, ([], false)) else match yldB b o.op (seenBy o b (evalB s)) with
  | some _ => none
  | none => match valY P sp Y o.op (seenBy o b (evalB s)) s.heap with
   | some (v, W, f) => bif b || W.isEmpty then some (s.put n o.dst (condW o b v) (wrC s.heap W), f) else none
   | none => bif b then none else some (s.put n o.dst (condW o b .junk) s.heap, ([], false))
theorem stepE_C {sp : Spec} {Y : YS} {n : Nat} {ops : Array Oper} {o : Oper} {s s' : CS} {f : Foot} {K : CS → Foot → Prop} (h : stepE P sp Y n ops o s = some (s', f)) (hK : K s' f) : stepC P sp Y n ops o s K := by
 unfold stepE at h
 rw [evalB_eq] at h
 unfold stepC
 split at h
 ·cases h
 ·rename_i b hb
  rw [hb]; simp only
  cases hgd : (sp.gd && !b) with
  | true =>
   rw [hgd] at h
   simp only [cond_true, Option.some.injEq, Prod.mk.injEq] at h
   obtain ⟨rfl, rfl⟩ := h
   exact hK
  | false =>
  rw [hgd] at h
  simp only [cond_false] at h ⊢
  split at h
  ·cases h
  ·rename_i hy
   split at h
   ·rename_i v W f' hv
    cases hbw : (b || W.isEmpty) with
    | false => rw [hbw] at h; cases h
    | true =>
     rw [hbw] at h
     simp only [cond_true, Option.some.injEq, Prod.mk.injEq] at h
     obtain ⟨rfl, rfl⟩ := h
     simp only [hy, hv]
     refine ⟨fun e => ?_, hK⟩
     subst e
     simpa using hbw
   ·rename_i hv
    cases b with
    | true => cases h
    | false =>
     simp only [cond_false, Option.some.injEq, Prod.mk.injEq] at h
     obtain ⟨rfl, rfl⟩ := h
     simp only [hy, hv]
     exact ⟨trivial, hK⟩
noncomputable def popsE (P : Program) (sp : Spec) (Y : YS) (n : Nat) (ops : Array Oper) : List Oper → CS → List Foot → Option (CS × List Foot)
 | [], s, fs => some (s, fs)
 | o :: l, s, fs => match stepE P sp Y n ops o s with
  | some (s', f) => popsE P sp Y n ops l s' (fs ++ [f])
  | none => none
theorem popsE_C {sp : Spec} {Y : YS} {n : Nat} {ops : Array Oper} {K : CS → List Foot → Prop} : ∀ (l : List Oper) (s : CS) (fs : List Foot) (s' : CS) (fs' : List Foot), popsE P sp Y n ops l s fs = some (s', fs') → K s' fs' → popsC P sp Y n ops l s fs K
 | [], s, fs, s', fs', h, hK => by unfold popsE at h; cases h; exact hK
 | o :: l, s, fs, s', fs', h, hK => by
  unfold popsE at h
  split at h
  ·rename_i s1 f h1
   exact stepE_C h1 (popsE_C l s1 _ s' fs' h hK)
  ·cases h

theorem stepE_key {sp : Spec} {Y : YS} {n : Nat} {ops : Array Oper} {o : Oper} {s s' : CS} {f : Foot} (hk : keysOk n s.env = true) (h : stepE P sp Y n ops o s = some (s', f)) : keysOk n s'.env = true := by
 unfold stepE at h
 split at h
 ·cases h
 ·rename_i b _
  cases hgd : (sp.gd && !b) with
  | true =>
   rw [hgd] at h
   simp only [cond_true, Option.some.injEq, Prod.mk.injEq] at h
   obtain ⟨rfl, _⟩ := h
   exact keys_put hk _ _ _
  | false =>
  rw [hgd] at h
  simp only [cond_false] at h
  split at h
  ·cases h
  ·split at h
   ·rename_i v W f' _
    cases hbw : (b || W.isEmpty) <;> rw [hbw] at h
    ·cases h
    ·simp only [cond_true, Option.some.injEq, Prod.mk.injEq] at h
     obtain ⟨rfl, _⟩ := h
     exact keys_put hk _ _ _
   ·cases b
    ·simp only [cond_false, Option.some.injEq, Prod.mk.injEq] at h
     obtain ⟨rfl, _⟩ := h
     exact keys_put hk _ _ _
    ·cases h
theorem popsE_key {sp : Spec} {Y : YS} {n : Nat} {ops : Array Oper} : ∀ (l : List Oper) (s : CS) (fs : List Foot) (s' : CS) (fs' : List Foot), keysOk n s.env = true → popsE P sp Y n ops l s fs = some (s', fs') → keysOk n s'.env = true
 | [], s, fs, s', fs', hk, h => by unfold popsE at h; cases h; exact hk
 | o :: l, s, fs, s', fs', hk, h => by
  unfold popsE at h
  split at h
  ·rename_i s1 f h1
   exact popsE_key l s1 _ s' fs' (stepE_key hk h1) h
  ·cases h

noncomputable def loopE (g : CS → Option (Exit × CS)) : Nat → CS → Option (Exit × CS)
 | 0, _ => none
 | k + 1, s => match g s with
  | some (.normal, s') => loopE g k (comp s')
  | r => r
noncomputable def ev (P : Program) (sp : Spec) (N n : Nat) : Code → CS → Option (Exit × CS)
 | .skip, s => some (.normal, s)
 | .label _, s => some (.normal, s)
 | .region _ ops draw, s => match popsE P sp noY n ops ops.toList s [] with
  | some (s', fs) => bif !draw || drawOk ops fs then some (.normal, s') else none
  | none => none
 | .seq a b, s => match ev P sp N n a s with
  | some (.normal, s') => ev P sp N n b s'
  | r => r
 | .cond c a b, s => match evalB s c with
  | .t (.bool true) => ev P sp N n a s
  | .t (.bool false) => ev P sp N n b s
  | _ => none
 | .block id c, s => match ev P sp N n c s with
  | some (.exit i, s') => bif Nat.beq i id then some (.normal, s') else some (.exit i, s')
  | r => r
 | .scope c, s => match ev P sp N n c s with
  | some (.goto _, _) => none
  | r => r
 | .loop c, s => loopE (ev P sp N n c) N s
 | .exit id, s => some (.exit id, s)
 | .ret, s => some (.ret, s)
 | _, _ => none

theorem loopE_ok {n : Nat} {X : PX} {c : Code} {g : CS → Option (Exit × CS)} (hg : ∀ s e s', keysOk n s.env = true → g s = some (e, s') → keysOk n s'.env = true ∧ ∀ Q : Exit → PS → Prop, Q e (toPS n s') → pwp P X c Q (toPS n s)) :
  ∀ (k : Nat) (s : CS) (e : Exit) (s' : CS), keysOk n s.env = true → loopE g k s = some (e, s') → keysOk n s'.env = true ∧ ∀ Q : Exit → PS → Prop, Q e (toPS n s') → pwp P X (.loop c) Q (toPS n s)
 | 0, s, e, s', hk, h => by unfold loopE at h; cases h
 | k + 1, s, e, s', hk, h => by
  unfold loopE at h
  split at h
  ·rename_i s1 h1
   obtain ⟨k1, q1⟩ := hg s _ s1 hk h1
   obtain ⟨k2, q2⟩ := loopE_ok hg k (comp s1) e s' (dedE_keys _ _ k1) h
   refine ⟨k2, fun Q hQ => ?_⟩
   obtain ⟨A, S, μ, x0, hw, hb⟩ := q2 Q hQ
   rw [comp_ps] at hw
   refine ⟨Option A, fun x => match x with | none => toPS n s | some x => S x, fun x => match x with | none => μ x0 + 1 | some x => μ x, none, Weak.refl _ _, fun x => ?_⟩
   cases x with
   | none => exact q1 _ ⟨some x0, hw, Nat.lt_succ_self _⟩
   | some x => exact pwp_mono c (fun e σ hs => by
     cases e with
     | normal => obtain ⟨x', h1, h2⟩ := hs; exact ⟨some x', h1, h2⟩
     | _ => exact hs) _ (hb x)
  ·rename_i hne
   obtain ⟨k1, q1⟩ := hg s e s' hk h
   refine ⟨k1, fun Q hQ => ?_⟩
   refine ⟨Unit, fun _ => toPS n s, fun _ => 0, (), Weak.refl _ _, fun _ => q1 _ ?_⟩
   cases e with
   | normal => exact (hne s' h).elim
   | _ => exact hQ
theorem ev_ok {sp : Spec} (hsp : SpecOk P sp) {N n k : Nat} {b0 : Bool} : ∀ (c : Code) (s : CS) (e : Exit) (s' : CS), keysOk n s.env = true → ev P sp N n c s = some (e, s') → keysOk n s'.env = true ∧ ∀ Q : Exit → PS → Prop, Q e (toPS n s') → pwp P ⟨noY, k, b0⟩ c Q (toPS n s)
 | .skip, s, e, s', hk, h => by unfold ev at h; cases h; exact ⟨hk, fun Q h => h⟩
 | .label _, s, e, s', hk, h => by unfold ev at h; cases h; exact ⟨hk, fun Q h => h⟩
 | .region _ ops draw, s, e, s', hk, h => by
  unfold ev at h
  split at h
  ·rename_i s1 fs h1
   cases hd : (!draw || drawOk ops fs) with
   | false => rw [hd] at h; cases h
   | true =>
    rw [hd] at h; cases h
    have hd' : draw = true → drawOk ops fs = true := fun e => by subst e; simpa using hd
    have hp := fun (Q : Exit → PS → Prop) (hQ : Q .normal (toPS n s')) => popsC_pops (P := P) hsp (n := n) (ops := ops) ops.toList 0 s [] hk (by simp) (popsE_C (K := fun s2 fs2 => s2 = s' ∧ fs2 = fs) _ _ _ _ _ h1 ⟨rfl, rfl⟩)
    have hkey : keysOk n s'.env = true := popsE_key ops.toList s [] s' fs hk h1
    refine ⟨hkey, fun Q hQ => ?_⟩
    show pregion P noY ops draw (Q .normal) (toPS n s)
    unfold pregion
    rw [List.range_eq_range']
    refine pops_mono _ (fun σ fs' hs => ?_) (by simpa using hp Q hQ)
    obtain ⟨s2, rfl, _, rfl, rfl⟩ := hs
    exact ⟨hd', hQ⟩
  ·cases h
 | .seq a b, s, e, s', hk, h => by
  unfold ev at h
  split at h
  ·rename_i s1 h1
   obtain ⟨k1, q1⟩ := ev_ok hsp a s _ s1 hk h1
   obtain ⟨k2, q2⟩ := ev_ok hsp b s1 e s' k1 h
   exact ⟨k2, fun Q hQ => q1 _ (q2 Q hQ)⟩
  ·rename_i hne
   obtain ⟨k1, q1⟩ := ev_ok hsp a s e s' hk h
   refine ⟨k1, fun Q hQ => q1 _ ?_⟩
   cases e with
   | normal => exact (hne s' h).elim
   | _ => exact hQ
 | .cond c a b, s, e, s', hk, h => by
  unfold ev at h
  rw [evalB_eq] at h
  split at h
  ·rename_i hc
   obtain ⟨k1, q1⟩ := ev_ok hsp a s e s' hk h
   exact ⟨k1, fun Q hQ => ⟨true, by rw [toPS_eval hk]; exact hc, fun _ => q1 Q hQ, fun e => by cases e⟩⟩
  ·rename_i hc
   obtain ⟨k1, q1⟩ := ev_ok hsp b s e s' hk h
   exact ⟨k1, fun Q hQ => ⟨false, by rw [toPS_eval hk]; exact hc, fun e => (by cases e), fun _ => q1 Q hQ⟩⟩
  ·cases h
 | .block id c, s, e, s', hk, h => by
  unfold ev at h
  split at h
  ·rename_i i s1 h1
   obtain ⟨k1, q1⟩ := ev_ok hsp c s _ s1 hk h1
   cases hb : Nat.beq i id with
   | true =>
    rw [hb] at h; cases h
    have : i = id := Nat.eq_of_beq_eq_true hb
    exact ⟨k1, fun Q hQ => q1 _ (by show (if i = id then _ else _); rw [if_pos this]; exact hQ)⟩
   | false =>
    rw [hb] at h; cases h
    have : ¬ i = id := fun e => by rw [e] at hb; simp at hb
    exact ⟨k1, fun Q hQ => q1 _ (by show (if i = id then _ else _); rw [if_neg this]; exact hQ)⟩
  ·rename_i hne
   obtain ⟨k1, q1⟩ := ev_ok hsp c s e s' hk h
   refine ⟨k1, fun Q hQ => q1 _ ?_⟩
   cases e with
   | exit i => exact (hne i s' h).elim
   | _ => exact hQ
 | .scope c, s, e, s', hk, h => by
  unfold ev at h
  split at h
  ·cases h
  ·rename_i hne
   obtain ⟨k1, q1⟩ := ev_ok hsp c s e s' hk h
   refine ⟨k1, fun Q hQ => q1 _ ?_⟩
   cases e with
   | goto i => exact (hne i s' h).elim
   | _ => exact hQ
 | .loop c, s, e, s', hk, h => by
  unfold ev at h
  exact loopE_ok (fun s e s' hk h => ev_ok hsp c s e s' hk h) N s e s' hk h
 | .exit id, s, e, s', hk, h => by unfold ev at h; cases h; exact ⟨hk, fun Q h => h⟩
 | .ret, s, e, s', hk, h => by unfold ev at h; cases h; exact ⟨hk, fun Q h => h⟩
 | .rangeFunc .., s, e, s', hk, h => by unfold ev at h; cases h
 | .goto .., s, e, s', hk, h => by unfold ev at h; cases h
 | .refuse .., s, e, s', hk, h => by unfold ev at h; cases h

def endE : Exit → Bool
 | .normal | .ret => true
 | _ => false
noncomputable def evP (P : Program) (sp : Spec) (N : Nat) (f : FuncId) (al : List TV) : Option TV :=
 match P.funcs[f]? with
 | some fn => match fn.body with
  | some c => bif !(fn.name == "runtime.NumGoroutine") && Nat.ble al.length fn.ntmps then
    match ev P sp N fn.ntmps c { env := argsE (al.map .t) 0, heap := [] } with
    | some (e, s) => bif endE e && Nat.beq (cntL s.heap) 0 && Nat.beq (cntL (frzC P fn.results.toList s).heap) 0 then
      match resC P fn.results.toList (frzC P fn.results.toList s) with
      | some (.t r) => some r
      | _ => none
     else none
    | none => none
   else none
  | none => none
 | none => none
noncomputable def evH (P : Program) (sp : Spec) (N : Nat) (f : FuncId) (al : List PV) (hl : List PO) : Option (PV × List PO) :=
 match P.funcs[f]? with
 | some fn => match fn.body with
  | some c => bif !(fn.name == "runtime.NumGoroutine") && Nat.ble al.length fn.ntmps then
    match ev P sp N fn.ntmps c { env := argsE al 0, heap := hl } with
    | some (e, s) => bif endE e && Nat.ble hl.length s.heap.length && s.heap.all (PO.under s.heap.length) then
      match resC P fn.results.toList s with
      | some v => bif v.under s.heap.length then some (v, s.heap) else none
      | none => none
     else none
    | none => none
   else none
  | none => none
 | none => none

theorem pcalls_pwp (hm : P.follows .mixedOrders = true) {f : FuncId} {fn : Func} {c : Code} {args : List TV} {r : TV} (hf : P.funcs[f]? = some fn) (hb : fn.body = some c) (hname : (fn.name == "runtime.NumGoroutine") = false)
  (hn : args.length ≤ fn.ntmps) (hw : pwp P ⟨noY, 0, false⟩ c (liftC fn.ntmps (bodyC P fn.results.toList r)) (toPS fn.ntmps { env := argsE (args.map .t) 0, heap := [] })) : PCalls P f args r := by
 have h0 : noH = getL [] := by funext i; simp [noH, getL]
 refine hcalls_of (k := 0) hm hf hb hname (fun _ _ => rfl) (by rw [h0]; exact start_weak (by simpa using hn)) (pwp_mono c (fun e σ hs => ?_) _ hw)
 obtain ⟨s', rfl, hk', hq⟩ := hs
 have fin : resC P fn.results.toList (frzC P fn.results.toList s') = some (.t r) ∧ cntL s'.heap = 0 ∧ cntL (frzC P fn.results.toList s').heap = 0 → ∃ s1, Weak P 0 (toPS fn.ntmps s') s1 ∧ ∃ p, resO P fn.results.toList s1 = some p ∧ Weak P 0 ⟨[p], s1.heap⟩ ⟨[.t r], noH⟩ := fun hq => by
  refine ⟨_, frzC_weak (rs := fn.results.toList) (by rw [hq.2.1, hq.2.2]), .t r, (resC_eq (frzC_keys hk')).trans hq.1, weak_of (m := 0) (Nat.le_refl _) rfl (fun i p p' hp hp' => ?_) (fun id hid => by omega) (fun _ _ => rfl) ?_⟩
  ·rw [hp] at hp'; cases hp'
   cases i with
   | zero => simp at hp; subst hp; exact ⟨.inr (.inl rfl), rfl⟩
   | succ i => simp at hp
  ·show cntOf noH = cntOf (getL (frzC P fn.results.toList s').heap)
   rw [cntL_eq, hq.2.2]; rfl
 cases e with
 | normal => exact fin hq
 | ret => exact fin hq
 | _ => exact hq.elim
theorem hcalls_pwp (hm : P.follows .mixedOrders = true) {f : FuncId} {fn : Func} {c : Code} {al : List PV} {hl hl' : List PO} {v : PV} (hf : P.funcs[f]? = some fn) (hb : fn.body = some c) (hname : (fn.name == "runtime.NumGoroutine") = false)
  (hn : al.length ≤ fn.ntmps) (hw : pwp P ⟨noY, hl.length, false⟩ c (liftC fn.ntmps (bodyH P hl.length fn.results.toList v hl')) (toPS fn.ntmps { env := argsE al 0, heap := hl })) : HCalls P f al (getL hl) v (getL hl') := by
 refine hcalls_of (k := hl.length) hm hf hb hname (fun id hid => getL_out hid) (start_weak hn) (pwp_mono c (fun e σ hs => ?_) _ hw)
 obtain ⟨s', rfl, hk', hq⟩ := hs
 have fin : (∃ p, resC P fn.results.toList s' = some p ∧ cellW hl' p v ∧ v.under hl'.length = true ∧ heapW hl' s'.heap hl' ∧ hl'.all (PO.under hl'.length) = true ∧ hl.length ≤ hl'.length ∧ cntL hl' = cntL s'.heap) →
   ∃ s1, Weak P hl.length (toPS fn.ntmps s') s1 ∧ ∃ p, resO P fn.results.toList s1 = some p ∧ Weak P hl.length ⟨[p], s1.heap⟩ ⟨[v], getL hl'⟩ := by
  rintro ⟨p, h1, h2, h3, h4, h5, h6, h7⟩
  refine ⟨_, Weak.refl _ _, p, (resC_eq hk').trans h1, weak_of (m := hl'.length) h6 rfl (fun i q q' hq hq' => ?_) (fun id hid => ⟨heapW_le h4 id hid, ?_⟩) (fun id hid => getL_out hid) (by show cntOf (getL hl') = cntOf (getL s'.heap); rw [cntL_eq, cntL_eq, h7])⟩
  ·cases i with
   | zero => simp at hq hq'; subst hq; subst hq'; exact ⟨cellW_le h2, h3⟩
   | succ i => simp at hq
  ·rw [List.all_eq_true] at h5
   refine h5 _ ?_
   show hl'.getD id .res ∈ hl'
   rw [List.getD_eq_getElem?_getD, List.getElem?_eq_getElem hid]; exact List.getElem_mem hid
 cases e with
 | normal => exact fin hq
 | ret => exact fin hq
 | _ => exact hq.elim
theorem cellW_refl (l : List PO) (p : PV) : cellW l p p := by
 cases p <;> simp [cellW, PV.toT]
theorem cellsW_refl (l : List PO) : ∀ cs : List PV, cellsW l cs cs
 | [] => trivial
 | c :: cs => ⟨cellW_refl l c, cellsW_refl l cs⟩
theorem objW_refl (l : List PO) (o : PO) : objW l o o := by
 cases o <;> simp [objW, cellsW_refl]
theorem heapW_refl (hp : List PO) : ∀ l : List PO, heapW hp l l
 | [] => by unfold heapW; trivial
 | o :: l => ⟨objW_refl hp o, heapW_refl hp l⟩

theorem evP_ok (hm : P.follows .mixedOrders = true) {sp : Spec} (hsp : SpecOk P sp) {N : Nat} {f : FuncId} {al : List TV} {r : TV} (h : evP P sp N f al = some r) : PCalls P f al r := by
 unfold evP at h
 split at h
 ·rename_i fn hf
  split at h
  ·rename_i c hc
   cases h1 : (!(fn.name == "runtime.NumGoroutine") && Nat.ble al.length fn.ntmps) with
   | false => rw [h1] at h; cases h
   | true =>
    rw [h1] at h; simp only [cond_true] at h
    simp only [Bool.and_eq_true, Bool.not_eq_true'] at h1
    have hn : al.length ≤ fn.ntmps := Nat.le_of_ble_eq_true h1.2
    split at h
    ·rename_i e s he
     cases h2 : (endE e && Nat.beq (cntL s.heap) 0 && Nat.beq (cntL (frzC P fn.results.toList s).heap) 0) with
     | false => rw [h2] at h; cases h
     | true =>
      rw [h2] at h; simp only [cond_true] at h
      simp only [Bool.and_eq_true] at h2
      obtain ⟨⟨h3, h4⟩, h5⟩ := h2
      have h4 : cntL s.heap = 0 := by simpa using h4
      have h5 : cntL (frzC P fn.results.toList s).heap = 0 := by simpa using h5
      split at h
      ·rename_i r' hr
       cases h
       obtain ⟨k1, q1⟩ := ev_ok (k := 0) (b0 := false) hsp c _ e s (argsE_keys _ 0 _ (by simpa using hn)) he
       refine pcalls_pwp hm hf hc h1.1 hn (q1 _ ⟨s, rfl, k1, ?_⟩)
       cases e with
       | normal => exact ⟨hr, h4, h5⟩
       | ret => exact ⟨hr, h4, h5⟩
       | _ => cases h3
      ·cases h
    ·cases h
  ·cases h
 ·cases h
theorem evH_ok (hm : P.follows .mixedOrders = true) {sp : Spec} (hsp : SpecOk P sp) {N : Nat} {f : FuncId} {al : List PV} {hl hl' : List PO} {v : PV} (h : evH P sp N f al hl = some (v, hl')) : HCalls P f al (getL hl) v (getL hl') := by
 unfold evH at h
 split at h
 ·rename_i fn hf
  split at h
  ·rename_i c hc
   cases h1 : (!(fn.name == "runtime.NumGoroutine") && Nat.ble al.length fn.ntmps) with
   | false => rw [h1] at h; cases h
   | true =>
    rw [h1] at h; simp only [cond_true] at h
    simp only [Bool.and_eq_true, Bool.not_eq_true'] at h1
    have hn : al.length ≤ fn.ntmps := Nat.le_of_ble_eq_true h1.2
    split at h
    ·rename_i e s he
     cases h2 : (endE e && Nat.ble hl.length s.heap.length && s.heap.all (PO.under s.heap.length)) with
     | false => rw [h2] at h; cases h
     | true =>
      rw [h2] at h; simp only [cond_true] at h
      simp only [Bool.and_eq_true] at h2
      obtain ⟨⟨h3, h4⟩, h5⟩ := h2
      split at h
      ·rename_i v' hr
       cases h6 : v'.under s.heap.length with
       | false => rw [h6] at h; cases h
       | true =>
        rw [h6] at h; cases h
        obtain ⟨k1, q1⟩ := ev_ok (k := hl.length) (b0 := false) hsp c _ e s (argsE_keys _ 0 _ (by omega)) he
        refine hcalls_pwp hm hf hc h1.1 hn (q1 _ ⟨s, rfl, k1, ?_⟩)
        have fin : ∃ p, resC P fn.results.toList s = some p ∧ cellW s.heap p v ∧ v.under s.heap.length = true ∧ heapW s.heap s.heap s.heap ∧ s.heap.all (PO.under s.heap.length) = true ∧ hl.length ≤ s.heap.length ∧ cntL s.heap = cntL s.heap :=
         ⟨v, hr, cellW_refl _ _, h6, heapW_refl _ _, h5, Nat.le_of_ble_eq_true h4, rfl⟩
        cases e with
        | normal => exact fin
        | ret => exact fin
        | _ => cases h3
      ·cases h
    ·cases h
  ·cases h
 ·cases h

noncomputable def evS (P : Program) (base : Spec) (N : Nat) : Nat → Spec
 | 0 => base
 | k + 1 => { base with
     p := fun f al => match base.p f al with | some r => some r | none => evP P (evS P base N k) N f al
     h := fun f al hl => match base.h f al hl with | some r => some r | none => evH P (evS P base N k) N f al hl }
theorem evS_ok (hm : P.follows .mixedOrders = true) {base : Spec} (hb : SpecOk P base) {N : Nat} : ∀ k, SpecOk P (evS P base N k)
 | 0 => hb
 | k + 1 => ⟨fun f al r h => by
     simp only [evS] at h
     split at h
     ·rename_i r' h'; cases h; exact hb.1 _ _ _ h'
     ·exact evP_ok hm (evS_ok hm hb k) h, fun f al hl v hl' h => by
     simp only [evS] at h
     split at h
     ·rename_i r' h'; cases h; exact hb.2.1 _ _ _ _ _ h'
     ·exact evH_ok hm (evS_ok hm hb k) h, fun Y f al hl v hl' h => by
     simp only [evS] at h; exact hb.2.2 _ _ _ _ _ _ h⟩

end Go.Pm

/- Part QmSh. -/
namespace Go.Pm
open Go Go.RowKit
open Classical in
noncomputable def oneP (a0 : List TV) (r0 : TV) : List TV → Option TV := fun a => if a = a0 then some r0 else none
theorem oneP_ok {P : Program} {f : FuncId} {a0 : List TV} {r0 : TV} (h : PCalls P f a0 r0) : ∀ a r, oneP a0 r0 a = some r → PCalls P f a r := by
 intro a r e
 unfold oneP at e
 split at e
 ·rename_i hc; subst hc; cases e; exact h
 ·cases e
open Classical in
@[go_sem] theorem oneP_eq (a0 : List TV) (r0 : TV) (a : List TV) : oneP a0 r0 a = if a = a0 then some r0 else none := rfl
open Classical in
noncomputable def oneHs (ps0 : List PV) (hl0 : List PO) (r : PV × List PO) : List PV → List PO → Option (PV × List PO) := fun ps hl => if ps = ps0 ∧ hl = hl0 then some r else none
theorem oneHs_ok {P : Program} {f : FuncId} {ps0 : List PV} {hl0 : List PO} {r : PV × List PO} (h : HCalls P f ps0 (getL hl0) r.1 (getL r.2)) : ∀ ps hl v hl', oneHs ps0 hl0 r ps hl = some (v, hl') → HCalls P f ps (getL hl) v (getL hl') := by
 intro ps hl v hl' e
 unfold oneHs at e
 split at e
 ·rename_i hc; obtain ⟨rfl, rfl⟩ := hc; cases e; exact h
 ·cases e
open Classical in
@[go_sem] theorem oneHs_eq (ps0 : List PV) (hl0 : List PO) (r : PV × List PO) (ps : List PV) (hl : List PO) : oneHs ps0 hl0 r ps hl = if ps = ps0 ∧ hl = hl0 then some r else none := rfl
open Classical in
noncomputable def manyP : List (List TV × TV) → List TV → Option TV
 | [], _ => none
 | p :: l, a => if a = p.1 then some p.2 else manyP l a
theorem manyP_ok {P : Program} {f : FuncId} : ∀ {l : List (List TV × TV)}, (∀ p ∈ l, PCalls P f p.1 p.2) → ∀ a r, manyP l a = some r → PCalls P f a r
 | [], _, a, r, e => by unfold manyP at e; cases e
 | p :: l, h, a, r, e => by
  unfold manyP at e
  split at e
  ·rename_i hc; subst hc; cases e; exact h p List.mem_cons_self
  ·exact manyP_ok (fun q hq => h q (List.mem_cons_of_mem _ hq)) a r e
theorem many2_ok {P : Program} {f : FuncId} {a0 a1 : List TV} {r0 r1 : TV} (h0 : PCalls P f a0 r0) (h1 : PCalls P f a1 r1) : ∀ a r, manyP [(a0, r0), (a1, r1)] a = some r → PCalls P f a r := manyP_ok fun p hp => by
 simp only [List.mem_cons, List.not_mem_nil, or_false] at hp
 rcases hp with rfl | rfl
 ·exact h0
 ·exact h1
@[go_sem] theorem manyP_nil (a : List TV) : manyP [] a = none := by unfold manyP; rfl
open Classical in
@[go_sem] theorem manyP_cons (a0 : List TV) (r0 : TV) (l : List (List TV × TV)) (a : List TV) : manyP ((a0, r0) :: l) a = if a = a0 then some r0 else manyP l a := by rw [manyP]
end Go.Pm

/- Part TGa. -/
namespace Go.Ow
open Go Go.RowKit Go.Pm Go.Oc Go.Oh Go.Oc.Ix
def lowP (a b : Int) : Int × Int := (a / (Int.gcd a b : Int), b / (Int.gcd a b : Int))
def srt (W : List Int) : Prop := ∀ j, j + 1 < W.length → nthI W (j : Nat) ≤ nthI W ((j + 1 : Nat) : Int)
end Go.Ow
namespace Go.Proofs.YtlonlnfenbadbaaDoor
open Go.RowKit Go.Pm Go.Oc Go.Oh Go.Oc.Ix Go.Ow
set_option maxRecDepth 100000
set_option linter.unusedVariables false
set_option maxHeartbeats 8000000

theorem sWithin_c (n lo hi : Int) : PCalls Tryd.prog 112 [.int .i64 n, .int .i64 lo, .int .i64 hi] (.bool (inB n lo hi)) := by
 refine pcalls_by Tryd.mixes noSpec_ok (fn := Tryd.f112) Tryd.func112 rfl (by kernel_rfl) (by show 3 ≤ _; decide) ?_
 simp (decide := true) (maxSteps := 4000000) only [go_sem, Nat.reduceAdd, Nat.reduceSub, Nat.reduceMul, Nat.reduceDiv, Nat.reduceMod, Nat.reduceLT, Nat.reduceLeDiff, Nat.reduceEqDiff, Nat.reduceBEq, Nat.reduceBNe, Nat.reduceGT, Int.reduceAdd, Int.reduceSub, Int.reduceMul, Int.reduceNeg, Int.reduceLT, Int.reduceLE, Int.reduceEq, Int.reduceNe, Int.reduceBEq, Int.reduceBNe, Int.reduceToNat, Int.reduceGT, Int.reduceGE, ↓reduceIte, decide_true, decide_false, Tryd.f112, inB]
noncomputable def scWithin : List TV → Option TV
 | [.int .i64 n, .int .i64 lo, .int .i64 hi] => some (.bool (inB n lo hi))
 | _ => none
theorem scWithin_ok : ∀ xs r, scWithin xs = some r → PCalls Tryd.prog 112 xs r := by
 intro xs r h
 unfold scWithin at h
 split at h
 ·cases h; exact sWithin_c _ _ _
 ·cases h
attribute [go_sem] scWithin
theorem sNaN_c (a : Int) : PCalls Tryd.prog 175 [.int .i64 a] (.bool false) := by
 refine pcalls_by Tryd.mixes noSpec_ok (fn := Tryd.f175) Tryd.func175 rfl (by kernel_rfl) (by show 1 ≤ _; decide) ?_
 simp (decide := true) (maxSteps := 4000000) only [go_sem, Nat.reduceAdd, Nat.reduceSub, Nat.reduceMul, Nat.reduceDiv, Nat.reduceMod, Nat.reduceLT, Nat.reduceLeDiff, Nat.reduceEqDiff, Nat.reduceBEq, Nat.reduceBNe, Nat.reduceGT, Int.reduceAdd, Int.reduceSub, Int.reduceMul, Int.reduceNeg, Int.reduceLT, Int.reduceLE, Int.reduceEq, Int.reduceNe, Int.reduceBEq, Int.reduceBNe, Int.reduceToNat, Int.reduceGT, Int.reduceGE, ↓reduceIte, decide_true, decide_false, eq_self, Nat.mul_one, Nat.zero_mul, Nat.one_mul, Int.le_refl, Nat.le_refl, Int.cast_ofNat_Int, Tryd.f175]
 simp
noncomputable def scNaN : List TV → Option TV
 | [.int .i64 a] => some (.bool false)
 | _ => none
theorem scNaN_ok : ∀ xs r, scNaN xs = some r → PCalls Tryd.prog 175 xs r := by
 intro xs r h
 unfold scNaN at h
 split at h
 ·cases h; exact sNaN_c _
 ·cases h
attribute [go_sem] scNaN
noncomputable def spGn : Pm.Spec := noSpec.one 175 scNaN
@[go_sem] theorem spGn_p (f : FuncId) (xs : List TV) : spGn.p f xs = Pm.Spec.p (noSpec.one 175 scNaN) f xs := rfl
@[go_sem] theorem spGn_h (f : FuncId) (ps : List PV) (hl : List PO) : spGn.h f ps hl = Pm.Spec.h (noSpec.one 175 scNaN) f ps hl := rfl
@[go_sem] theorem spGn_y (Y : Pm.YS) (f : FuncId) (ps : List PV) (hl : List PO) : spGn.y Y f ps hl = Pm.Spec.y (noSpec.one 175 scNaN) Y f ps hl := rfl
@[go_sem] theorem spGn_fz (f : FuncId) : spGn.fz f = Pm.Spec.fz (noSpec.one 175 scNaN) f := rfl
@[go_sem] theorem spGn_fr (f : FuncId) : spGn.fr f = Pm.Spec.fr (noSpec.one 175 scNaN) f := rfl
@[go_sem] theorem spGn_yf (f : FuncId) : spGn.yf f = Pm.Spec.yf (noSpec.one 175 scNaN) f := rfl
@[go_sem] theorem spGn_gd : spGn.gd = Pm.Spec.gd (noSpec.one 175 scNaN) := rfl
@[go_sem] theorem spGn_mu (t : TypeId) : spGn.mu t = Pm.Spec.mu (noSpec.one 175 scNaN) t := rfl
@[go_sem] theorem spGn_nf (t : TypeId) : spGn.nf t = Pm.Spec.nf (noSpec.one 175 scNaN) t := rfl
theorem spGn_ok : SpecOk Tryd.prog spGn := Spec.one_ok scNaN_ok noSpec_ok
theorem sLess_c (a b : Int) : PCalls Tryd.prog 149 [.int .i64 a, .int .i64 b] (.bool (decide (a < b))) := by
 refine pcalls_by Tryd.mixes spGn_ok (fn := Tryd.f149) Tryd.func149 rfl (by kernel_rfl) (by show 2 ≤ _; decide) ?_
 simp (decide := true) (maxSteps := 4000000) only [go_sem, Nat.reduceAdd, Nat.reduceSub, Nat.reduceMul, Nat.reduceDiv, Nat.reduceMod, Nat.reduceLT, Nat.reduceLeDiff, Nat.reduceEqDiff, Nat.reduceBEq, Nat.reduceBNe, Nat.reduceGT, Int.reduceAdd, Int.reduceSub, Int.reduceMul, Int.reduceNeg, Int.reduceLT, Int.reduceLE, Int.reduceEq, Int.reduceNe, Int.reduceBEq, Int.reduceBNe, Int.reduceToNat, Int.reduceGT, Int.reduceGE, ↓reduceIte, decide_true, decide_false, eq_self, Nat.mul_one, Nat.zero_mul, Nat.one_mul, Int.le_refl, Nat.le_refl, Int.cast_ofNat_Int, Tryd.f149]
noncomputable def scLess : List TV → Option TV
 | [.int .i64 a, .int .i64 b] => some (.bool (decide (a < b)))
 | _ => none
theorem scLess_ok : ∀ xs r, scLess xs = some r → PCalls Tryd.prog 149 xs r := by
 intro xs r h
 unfold scLess at h
 split at h
 ·cases h; exact sLess_c _ _
 ·cases h
attribute [go_sem] scLess
noncomputable def spGl : Pm.Spec := (noSpec.one 149 scLess).one 112 scWithin
@[go_sem] theorem spGl_p (f : FuncId) (xs : List TV) : spGl.p f xs = Pm.Spec.p ((noSpec.one 149 scLess).one 112 scWithin) f xs := rfl
@[go_sem] theorem spGl_h (f : FuncId) (ps : List PV) (hl : List PO) : spGl.h f ps hl = Pm.Spec.h ((noSpec.one 149 scLess).one 112 scWithin) f ps hl := rfl
@[go_sem] theorem spGl_y (Y : Pm.YS) (f : FuncId) (ps : List PV) (hl : List PO) : spGl.y Y f ps hl = Pm.Spec.y ((noSpec.one 149 scLess).one 112 scWithin) Y f ps hl := rfl
@[go_sem] theorem spGl_fz (f : FuncId) : spGl.fz f = Pm.Spec.fz ((noSpec.one 149 scLess).one 112 scWithin) f := rfl
@[go_sem] theorem spGl_fr (f : FuncId) : spGl.fr f = Pm.Spec.fr ((noSpec.one 149 scLess).one 112 scWithin) f := rfl
@[go_sem] theorem spGl_yf (f : FuncId) : spGl.yf f = Pm.Spec.yf ((noSpec.one 149 scLess).one 112 scWithin) f := rfl
@[go_sem] theorem spGl_gd : spGl.gd = Pm.Spec.gd ((noSpec.one 149 scLess).one 112 scWithin) := rfl
@[go_sem] theorem spGl_mu (t : TypeId) : spGl.mu t = Pm.Spec.mu ((noSpec.one 149 scLess).one 112 scWithin) t := rfl
@[go_sem] theorem spGl_nf (t : TypeId) : spGl.nf t = Pm.Spec.nf ((noSpec.one 149 scLess).one 112 scWithin) t := rfl
theorem spGl_ok : SpecOk Tryd.prog spGl := Spec.one_ok scWithin_ok (Spec.one_ok scLess_ok noSpec_ok)
theorem sSorted_c {W : List Int} (f : Bool) (hs : srt W) (hl : W.length ≤ 17592186044415) : PCalls Tryd.prog 113 [.sl (ints W) W.length f] (.bool true) := by
 refine pcalls_by Tryd.mixes spGl_ok (fn := Tryd.f113) Tryd.func113 rfl (by kernel_rfl) (by show 1 ≤ _; decide) ?_
 have hw : IntKind.i64.wrap ((W.length : Int) - 1) = (W.length : Int) - 1 := wrap_in (by omega) (by omega)
 simp (decide := true) (maxSteps := 4000000) only [go_sem, Nat.reduceAdd, Nat.reduceSub, Nat.reduceMul, Nat.reduceDiv, Nat.reduceMod, Nat.reduceLT, Nat.reduceLeDiff, Nat.reduceEqDiff, Nat.reduceBEq, Nat.reduceBNe, Nat.reduceGT, Int.reduceAdd, Int.reduceSub, Int.reduceMul, Int.reduceNeg, Int.reduceLT, Int.reduceLE, Int.reduceEq, Int.reduceNe, Int.reduceBEq, Int.reduceBNe, Int.reduceToNat, Int.reduceGT, Int.reduceGE, ↓reduceIte, decide_true, decide_false, eq_self, Nat.mul_one, Nat.zero_mul, Nat.one_mul, Int.le_refl, Nat.le_refl, Int.cast_ofNat_Int, Tryd.f113, hw]
 refine pwpC_loopU (A := { k : Nat // k ≤ W.length }) [0] (fun k => [(3, .t (.int .i64 ((k.1 : Int) - 1)))]) (fun _ => []) (fun k => k.1) ⟨W.length, by omega⟩ (by decide) (fun _ => by rfl) ?_ fun Q1 hQ1 ⟨k, hk⟩ I1 hI1 => ?_
 ·simp (decide := true) (maxSteps := 4000000) only [go_sem, Nat.reduceAdd, Nat.reduceSub, Nat.reduceMul, Nat.reduceDiv, Nat.reduceMod, Nat.reduceLT, Nat.reduceLeDiff, Nat.reduceEqDiff, Nat.reduceBEq, Nat.reduceBNe, Nat.reduceGT, Int.reduceAdd, Int.reduceSub, Int.reduceMul, Int.reduceNeg, Int.reduceLT, Int.reduceLE, Int.reduceEq, Int.reduceNe, Int.reduceBEq, Int.reduceBNe, Int.reduceToNat, Int.reduceGT, Int.reduceGE, ↓reduceIte, decide_true, decide_false, eq_self, Nat.mul_one, Nat.zero_mul, Nat.one_mul, Int.le_refl, Nat.le_refl, Int.cast_ofNat_Int]
  first | done | trace_state
 ·by_cases hlt : (k : Int) - 1 > 0
  ·obtain ⟨j, rfl⟩ : ∃ j, k = j + 2 := ⟨k - 2, by omega⟩
   obtain ⟨x, hx⟩ : ∃ x, W[j + 1]? = some x := ⟨_, List.getElem?_eq_getElem (by omega)⟩
   obtain ⟨y, hy⟩ : ∃ y, W[j]? = some y := ⟨_, List.getElem?_eq_getElem (by omega)⟩
   have d1 := ints_at hx
   have d2 := ints_at hy
   rw [Nat.mul_one] at d1 d2
   have e1 : ((j + 2 : Nat) : Int) - 1 = ((j + 1 : Nat) : Int) := by omega
   have e2 : IntKind.i64.wrap (((j + 1 : Nat) : Int) - 1) = (j : Int) := by rw [wrap_in (by omega) (by omega)]; omega
   have l1 : ((j + 1 : Nat) : Int) < W.length := by omega
   have l2 : (j : Int) < W.length := by omega
   have hxy := hs j (by omega)
   rw [nthI_at hx, nthI_at hy] at hxy
   have hn : ¬ x < y := by omega
   have hg : ((j + 1 : Nat) : Int) > 0 := by omega
   simp (decide := true) (maxSteps := 4000000) only [go_sem, Nat.reduceAdd, Nat.reduceSub, Nat.reduceMul, Nat.reduceDiv, Nat.reduceMod, Nat.reduceLT, Nat.reduceLeDiff, Nat.reduceEqDiff, Nat.reduceBEq, Nat.reduceBNe, Nat.reduceGT, Int.reduceAdd, Int.reduceSub, Int.reduceMul, Int.reduceNeg, Int.reduceLT, Int.reduceLE, Int.reduceEq, Int.reduceNe, Int.reduceBEq, Int.reduceBNe, Int.reduceToNat, Int.reduceGT, Int.reduceGE, ↓reduceIte, decide_true, decide_false, eq_self, Nat.mul_one, Nat.zero_mul, Nat.one_mul, Int.le_refl, Nat.le_refl, Int.cast_ofNat_Int, e1, hg, l1, l2, e2, d1, d2, hn]
   refine hI1 _ ⟨j + 1, by omega⟩ (by simp only; omega) ?_
   have e3 : ((j + 1 : Nat) : Int) - 1 = (j : Int) := by omega
   simp (decide := true) (maxSteps := 4000000) only [go_sem, Nat.reduceAdd, Nat.reduceSub, Nat.reduceMul, Nat.reduceDiv, Nat.reduceMod, Nat.reduceLT, Nat.reduceLeDiff, Nat.reduceEqDiff, Nat.reduceBEq, Nat.reduceBNe, Nat.reduceGT, Int.reduceAdd, Int.reduceSub, Int.reduceMul, Int.reduceNeg, Int.reduceLT, Int.reduceLE, Int.reduceEq, Int.reduceNe, Int.reduceBEq, Int.reduceBNe, Int.reduceToNat, Int.reduceGT, Int.reduceGE, ↓reduceIte, decide_true, decide_false, eq_self, Nat.mul_one, Nat.zero_mul, Nat.one_mul, Int.le_refl, Nat.le_refl, Int.cast_ofNat_Int, e2, e3]
   first | done | trace_state
  ·simp (decide := true) (maxSteps := 4000000) only [go_sem, Nat.reduceAdd, Nat.reduceSub, Nat.reduceMul, Nat.reduceDiv, Nat.reduceMod, Nat.reduceLT, Nat.reduceLeDiff, Nat.reduceEqDiff, Nat.reduceBEq, Nat.reduceBNe, Nat.reduceGT, Int.reduceAdd, Int.reduceSub, Int.reduceMul, Int.reduceNeg, Int.reduceLT, Int.reduceLE, Int.reduceEq, Int.reduceNe, Int.reduceBEq, Int.reduceBNe, Int.reduceToNat, Int.reduceGT, Int.reduceGE, ↓reduceIte, decide_true, decide_false, eq_self, Nat.mul_one, Nat.zero_mul, Nat.one_mul, Int.le_refl, Nat.le_refl, Int.cast_ofNat_Int, hlt]
   refine hQ1 _ _ ?_
   simp (decide := true) (maxSteps := 4000000) only [go_sem, Nat.reduceAdd, Nat.reduceSub, Nat.reduceMul, Nat.reduceDiv, Nat.reduceMod, Nat.reduceLT, Nat.reduceLeDiff, Nat.reduceEqDiff, Nat.reduceBEq, Nat.reduceBNe, Nat.reduceGT, Int.reduceAdd, Int.reduceSub, Int.reduceMul, Int.reduceNeg, Int.reduceLT, Int.reduceLE, Int.reduceEq, Int.reduceNe, Int.reduceBEq, Int.reduceBNe, Int.reduceToNat, Int.reduceGT, Int.reduceGE, ↓reduceIte, decide_true, decide_false, eq_self, Nat.mul_one, Nat.zero_mul, Nat.one_mul, Int.le_refl, Nat.le_refl, Int.cast_ofNat_Int]
   first | done | trace_state
theorem sLowest_c (a b : Int) (ha : 0 < a ∧ a ≤ 1000000000000) (hb : 0 < b ∧ b ≤ 1000000000000) : PCalls Tryd.prog 65 [.agg [.int .i64 a, .int .i64 b]] (.agg [.int .i64 (lowP a b).1, .int .i64 (lowP a b).2]) := by
 refine pcalls_by Tryd.mixes noSpec_ok (fn := Tryd.f65) Tryd.func65 rfl (by kernel_rfl) (by show 1 ≤ _; decide) ?_
 simp (decide := true) (maxSteps := 4000000) only [go_sem, Nat.reduceAdd, Nat.reduceSub, Nat.reduceMul, Nat.reduceDiv, Nat.reduceMod, Nat.reduceLT, Nat.reduceLeDiff, Nat.reduceEqDiff, Nat.reduceBEq, Nat.reduceBNe, Nat.reduceGT, Int.reduceAdd, Int.reduceSub, Int.reduceMul, Int.reduceNeg, Int.reduceLT, Int.reduceLE, Int.reduceEq, Int.reduceNe, Int.reduceBEq, Int.reduceBNe, Int.reduceToNat, Int.reduceGT, Int.reduceGE, ↓reduceIte, decide_true, decide_false, eq_self, Nat.mul_one, Nat.zero_mul, Nat.one_mul, Int.le_refl, Nat.le_refl, Int.cast_ofNat_Int, Tryd.f65]
 refine pwpC_loopU (A := { x : Int × Int // 0 < x.1 ∧ x.1 ≤ 1000000000000 ∧ 0 ≤ x.2 ∧ x.2 ≤ 1000000000000 ∧ Int.gcd x.1 x.2 = Int.gcd a b }) [1, 2] (fun x => [(3, .t (.int .i64 x.1.1)), (4, .t (.int .i64 x.1.2))]) (fun _ => []) (fun x => x.1.2.toNat) ⟨(a, b), ha.1, ha.2, by omega, hb.2, rfl⟩ (by decide) (fun _ => by rfl) ?_ fun Q1 hQ1 ⟨⟨x, y⟩, hx1, hx2, hy1, hy2, hg⟩ I1 hI1 => ?_
 ·simp (decide := true) (maxSteps := 4000000) only [go_sem, Nat.reduceAdd, Nat.reduceSub, Nat.reduceMul, Nat.reduceDiv, Nat.reduceMod, Nat.reduceLT, Nat.reduceLeDiff, Nat.reduceEqDiff, Nat.reduceBEq, Nat.reduceBNe, Nat.reduceGT, Int.reduceAdd, Int.reduceSub, Int.reduceMul, Int.reduceNeg, Int.reduceLT, Int.reduceLE, Int.reduceEq, Int.reduceNe, Int.reduceBEq, Int.reduceBNe, Int.reduceToNat, Int.reduceGT, Int.reduceGE, ↓reduceIte, decide_true, decide_false, eq_self, Nat.mul_one, Nat.zero_mul, Nat.one_mul, Int.le_refl, Nat.le_refl, Int.cast_ofNat_Int]
  first | done | trace_state
 ·simp only at hx1 hx2 hy1 hy2 hg
  by_cases hlt : y > 0
  ·have hne : ¬ y = 0 := by omega
   have hm : x.tmod y = x % y := Int.tmod_eq_emod_of_nonneg (by omega)
   have m1 := Int.emod_nonneg x hne
   have m2 := Int.emod_lt_of_pos x hlt
   have m3 : x % y ≤ x := by have := Int.mul_ediv_add_emod x y; have h0 := Int.mul_nonneg (show 0 ≤ y by omega) (Int.ediv_nonneg (show 0 ≤ x by omega) (show 0 ≤ y by omega)); omega
   simp (decide := true) (maxSteps := 4000000) only [go_sem, Nat.reduceAdd, Nat.reduceSub, Nat.reduceMul, Nat.reduceDiv, Nat.reduceMod, Nat.reduceLT, Nat.reduceLeDiff, Nat.reduceEqDiff, Nat.reduceBEq, Nat.reduceBNe, Nat.reduceGT, Int.reduceAdd, Int.reduceSub, Int.reduceMul, Int.reduceNeg, Int.reduceLT, Int.reduceLE, Int.reduceEq, Int.reduceNe, Int.reduceBEq, Int.reduceBNe, Int.reduceToNat, Int.reduceGT, Int.reduceGE, ↓reduceIte, decide_true, decide_false, eq_self, Nat.mul_one, Nat.zero_mul, Nat.one_mul, Int.le_refl, Nat.le_refl, Int.cast_ofNat_Int, hlt, hne, hm]
   refine hI1 _ ⟨(y, x % y), by simp only; omega, by simp only; omega, by simp only; omega, by simp only; omega, ?_⟩ (by simp only; omega) ?_
   ·simp only
    rw [← hg]
    obtain ⟨x, rfl⟩ := Int.eq_ofNat_of_zero_le (show 0 ≤ x by omega)
    obtain ⟨y, rfl⟩ := Int.eq_ofNat_of_zero_le (show 0 ≤ y by omega)
    show Nat.gcd y (x % y) = Nat.gcd x y
    rw [Nat.gcd_comm x y, Nat.gcd_rec y x, Nat.gcd_comm]
   ·simp (decide := true) (maxSteps := 4000000) only [go_sem, Nat.reduceAdd, Nat.reduceSub, Nat.reduceMul, Nat.reduceDiv, Nat.reduceMod, Nat.reduceLT, Nat.reduceLeDiff, Nat.reduceEqDiff, Nat.reduceBEq, Nat.reduceBNe, Nat.reduceGT, Int.reduceAdd, Int.reduceSub, Int.reduceMul, Int.reduceNeg, Int.reduceLT, Int.reduceLE, Int.reduceEq, Int.reduceNe, Int.reduceBEq, Int.reduceBNe, Int.reduceToNat, Int.reduceGT, Int.reduceGE, ↓reduceIte, decide_true, decide_false, eq_self, Nat.mul_one, Nat.zero_mul, Nat.one_mul, Int.le_refl, Nat.le_refl, Int.cast_ofNat_Int]
    first | done | trace_state
  ·have hy0 : y = 0 := by omega
   subst hy0
   have hgx : (Int.gcd a b : Int) = x := by rw [← hg, Int.gcd_zero_right]; omega
   have hne : ¬ x = 0 := by omega
   have q1 : a.tdiv x = a / x := Int.tdiv_eq_ediv_of_nonneg (by omega)
   have q2 : b.tdiv x = b / x := Int.tdiv_eq_ediv_of_nonneg (by omega)
   have n1 := Int.ediv_nonneg (show 0 ≤ a by omega) (show 0 ≤ x by omega)
   have n2 := Int.ediv_nonneg (show 0 ≤ b by omega) (show 0 ≤ x by omega)
   have u1 := Int.ediv_le_self x (show 0 ≤ a by omega)
   have u2 := Int.ediv_le_self x (show 0 ≤ b by omega)
   have w1 : IntKind.i64.wrap (a / x) = a / x := wrap_in (by omega) (by omega)
   have w2 : IntKind.i64.wrap (b / x) = b / x := wrap_in (by omega) (by omega)
   simp (decide := true) (maxSteps := 4000000) only [go_sem, Nat.reduceAdd, Nat.reduceSub, Nat.reduceMul, Nat.reduceDiv, Nat.reduceMod, Nat.reduceLT, Nat.reduceLeDiff, Nat.reduceEqDiff, Nat.reduceBEq, Nat.reduceBNe, Nat.reduceGT, Int.reduceAdd, Int.reduceSub, Int.reduceMul, Int.reduceNeg, Int.reduceLT, Int.reduceLE, Int.reduceEq, Int.reduceNe, Int.reduceBEq, Int.reduceBNe, Int.reduceToNat, Int.reduceGT, Int.reduceGE, ↓reduceIte, decide_true, decide_false, eq_self, Nat.mul_one, Nat.zero_mul, Nat.one_mul, Int.le_refl, Nat.le_refl, Int.cast_ofNat_Int, hlt]
   refine hQ1 _ _ ?_
   simp (decide := true) (maxSteps := 4000000) only [go_sem, Nat.reduceAdd, Nat.reduceSub, Nat.reduceMul, Nat.reduceDiv, Nat.reduceMod, Nat.reduceLT, Nat.reduceLeDiff, Nat.reduceEqDiff, Nat.reduceBEq, Nat.reduceBNe, Nat.reduceGT, Int.reduceAdd, Int.reduceSub, Int.reduceMul, Int.reduceNeg, Int.reduceLT, Int.reduceLE, Int.reduceEq, Int.reduceNe, Int.reduceBEq, Int.reduceBNe, Int.reduceToNat, Int.reduceGT, Int.reduceGE, ↓reduceIte, decide_true, decide_false, eq_self, Nat.mul_one, Nat.zero_mul, Nat.one_mul, Int.le_refl, Nat.le_refl, Int.cast_ofNat_Int, hne, q1, q2, w1, w2, lowP, hgx]
   first | done | trace_state
end Go.Proofs.YtlonlnfenbadbaaDoor

/- Part TGb. -/
namespace Go.Ow
open Go Go.RowKit Go.Pm Go.Oc Go.Oh Go.Oc.Ix
def dfs (n : Nat) : Nat → List Int → List (List Int)
 | 0, l => [l]
 | d + 1, l => (List.range n).flatMap fun i : Nat => if l.contains (i : Int) then [] else dfs n d (l ++ [(i : Int)])
def dfsTo (n : Nat) (d : Nat) (l : List Int) (k : Nat) : List (List Int) := (List.range k).flatMap fun i : Nat => if l.contains (i : Int) then [] else dfs n d (l ++ [(i : Int)])
theorem dfsTo_succ (n d : Nat) (l : List Int) (k : Nat) : dfsTo n d l (k + 1) = dfsTo n d l k ++ (if l.contains (k : Int) then [] else dfs n d (l ++ [(k : Int)])) := by
 unfold dfsTo; rw [List.range_succ, List.flatMap_append]; simp
theorem dfsTo_all (n d : Nat) (l : List Int) : dfsTo n d l n = dfs n (d + 1) l := rfl
def gOk (n m : Nat) (g : List Int) : Prop := g.length = m ∧ g.Nodup ∧ ∀ x ∈ g, 0 ≤ x ∧ x < n
theorem dfs_ok (n : Nat) : ∀ (d : Nat) (l : List Int) (m : Nat), gOk n m l → ∀ g ∈ dfs n d l, gOk n (m + d) g
 | 0, l, m, h, g, hg => by
  unfold dfs at hg
  rw [List.mem_singleton] at hg; subst hg; exact h
 | d + 1, l, m, h, g, hg => by
  unfold dfs at hg
  obtain ⟨i, hi, hg⟩ := List.mem_flatMap.1 hg
  have hi := List.mem_range.1 hi
  split at hg
  ·cases hg
  ·rename_i hc
   have hc : (i : Int) ∉ l := fun e => hc (List.contains_iff_mem.2 e)
   have := dfs_ok n d (l ++ [(i : Int)]) (m + 1) ⟨by simp [h.1], by rw [List.nodup_append]; exact ⟨h.2.1, by simp, fun a ha b hb => by rw [List.mem_singleton] at hb; subst hb; intro e; subst e; exact hc ha⟩, fun x hx => by
    rcases List.mem_append.1 hx with hx | hx
    ·exact h.2.2 x hx
    ·rw [List.mem_singleton] at hx; subst hx; omega⟩ g hg
   rwa [Nat.add_assoc, Nat.add_comm 1 d] at this
def gearsL (n : Nat) : List (List Int) := dfs n 2 [] ++ dfs n 4 []
def gT (l : List Int) : TV := if l.length = 0 then .nilSl else .sl (ints l) l.length false
end Go.Ow
namespace Go.Proofs.YtlonlnfenbadbaaDoor
open Go.RowKit Go.Pm Go.Oc Go.Oh Go.Ow
set_option maxRecDepth 100000
set_option linter.unusedVariables false
set_option maxHeartbeats 8000000

theorem unIs (l : List Int) : unI (ints l) = some l := unI_eq l
def fIdx (v : Int) : Nat → List Int → Int
 | _, [] => -1
 | k, x :: l => if v = x then (k : Int) else fIdx v (k + 1) l
theorem fIdx_cons (v : Int) (k : Nat) (x : Int) (l : List Int) : fIdx v k (x :: l) = if v = x then (k : Int) else fIdx v (k + 1) l := rfl
theorem fIdx_nil (v : Int) (k : Nat) : fIdx v k [] = -1 := rfl
theorem fIdx_in (v : Int) : ∀ (l : List Int) (k : Nat), (fIdx v k l ≥ 0) ↔ v ∈ l
 | [], k => by simp [fIdx]
 | x :: l, k => by
  unfold fIdx
  by_cases h : v = x
  ·rw [if_pos h]; simp [h]
  ·rw [if_neg h, fIdx_in v l (k + 1)]; simp [h]
theorem sIndex_c {l : List Int} (f : Bool) (hl : l.length ≤ 1000000) (v : Int) : PCalls Tryd.prog 150 [.sl (ints l) l.length f, .int .i64 v] (.int .i64 (fIdx v 0 l)) := by
 refine pcalls_by Tryd.mixes noSpec_ok (fn := Tryd.f150) Tryd.func150 rfl (by kernel_rfl) (by show 2 ≤ _; decide) ?_
 simp (decide := true) (maxSteps := 4000000) only [go_sem, Nat.reduceAdd, Nat.reduceSub, Nat.reduceMul, Nat.reduceDiv, Nat.reduceMod, Nat.reduceLT, Nat.reduceLeDiff, Nat.reduceEqDiff, Nat.reduceBEq, Nat.reduceBNe, Nat.reduceGT, Int.reduceAdd, Int.reduceSub, Int.reduceMul, Int.reduceNeg, Int.reduceLT, Int.reduceLE, Int.reduceEq, Int.reduceNe, Int.reduceBEq, Int.reduceBNe, Int.reduceToNat, Int.reduceGT, Int.reduceGE, ↓reduceIte, decide_true, decide_false, eq_self, Nat.mul_one, Nat.zero_mul, Nat.one_mul, Int.le_refl, Nat.le_refl, Int.cast_ofNat_Int, Tryd.f150]
 refine pwpC_loopU (A := { k : Nat // k ≤ l.length ∧ fIdx v k (l.drop k) = fIdx v 0 l }) [0, 1, 7] (fun k => [(8, .t (.int .i64 k.1))]) (fun _ => []) (fun k => l.length - k.1) ⟨0, by omega, by rw [List.drop_zero]⟩ (by decide) (fun _ => by rfl) ?_ fun Q1 hQ1 ⟨k, hk, he⟩ I1 hI1 => ?_
 ·simp (decide := true) (maxSteps := 4000000) only [go_sem, Nat.reduceAdd, Nat.reduceSub, Nat.reduceMul, Nat.reduceDiv, Nat.reduceMod, Nat.reduceLT, Nat.reduceLeDiff, Nat.reduceEqDiff, Nat.reduceBEq, Nat.reduceBNe, Nat.reduceGT, Int.reduceAdd, Int.reduceSub, Int.reduceMul, Int.reduceNeg, Int.reduceLT, Int.reduceLE, Int.reduceEq, Int.reduceNe, Int.reduceBEq, Int.reduceBNe, Int.reduceToNat, Int.reduceGT, Int.reduceGE, ↓reduceIte, decide_true, decide_false, eq_self, Nat.mul_one, Nat.zero_mul, Nat.one_mul, Int.le_refl, Nat.le_refl, Int.cast_ofNat_Int]
 ·by_cases hlt : (k : Int) < l.length
  ·obtain ⟨x, hx⟩ : ∃ x, l[k]? = some x := ⟨_, List.getElem?_eq_getElem (by omega)⟩
   have d1 := ints_at hx
   rw [Nat.mul_one] at d1
   have hdk : l.drop k = x :: l.drop (k + 1) := by rw [List.drop_eq_getElem_cons (by omega)]; rw [List.getElem?_eq_getElem (by omega)] at hx; cases hx; rfl
   have hw : IntKind.i64.wrap ((k : Int) + 1) = ((k + 1 : Nat) : Int) := by rw [wrap_in (by omega) (by omega)]; omega
   rw [hdk, fIdx_cons] at he
   by_cases hxv : v = x
   ·rw [if_pos hxv] at he
    have hb : (v == x) = true := beq_int_t hxv
    simp (decide := true) (maxSteps := 4000000) only [go_sem, Nat.reduceAdd, Nat.reduceSub, Nat.reduceMul, Nat.reduceDiv, Nat.reduceMod, Nat.reduceLT, Nat.reduceLeDiff, Nat.reduceEqDiff, Nat.reduceBEq, Nat.reduceBNe, Nat.reduceGT, Int.reduceAdd, Int.reduceSub, Int.reduceMul, Int.reduceNeg, Int.reduceLT, Int.reduceLE, Int.reduceEq, Int.reduceNe, Int.reduceBEq, Int.reduceBNe, Int.reduceToNat, Int.reduceGT, Int.reduceGE, ↓reduceIte, decide_true, decide_false, eq_self, Nat.mul_one, Nat.zero_mul, Nat.one_mul, Int.le_refl, Nat.le_refl, Int.cast_ofNat_Int, hlt, d1, hb]
    refine hQ1 _ _ ?_
    simp (decide := true) (maxSteps := 4000000) only [go_sem, Nat.reduceAdd, Nat.reduceSub, Nat.reduceMul, Nat.reduceDiv, Nat.reduceMod, Nat.reduceLT, Nat.reduceLeDiff, Nat.reduceEqDiff, Nat.reduceBEq, Nat.reduceBNe, Nat.reduceGT, Int.reduceAdd, Int.reduceSub, Int.reduceMul, Int.reduceNeg, Int.reduceLT, Int.reduceLE, Int.reduceEq, Int.reduceNe, Int.reduceBEq, Int.reduceBNe, Int.reduceToNat, Int.reduceGT, Int.reduceGE, ↓reduceIte, decide_true, decide_false, eq_self, Nat.mul_one, Nat.zero_mul, Nat.one_mul, Int.le_refl, Nat.le_refl, Int.cast_ofNat_Int, ← he]
    first | done | trace_state
   ·rw [if_neg hxv] at he
    have hb : (v == x) = false := beq_int_f hxv
    simp (decide := true) (maxSteps := 4000000) only [go_sem, Nat.reduceAdd, Nat.reduceSub, Nat.reduceMul, Nat.reduceDiv, Nat.reduceMod, Nat.reduceLT, Nat.reduceLeDiff, Nat.reduceEqDiff, Nat.reduceBEq, Nat.reduceBNe, Nat.reduceGT, Int.reduceAdd, Int.reduceSub, Int.reduceMul, Int.reduceNeg, Int.reduceLT, Int.reduceLE, Int.reduceEq, Int.reduceNe, Int.reduceBEq, Int.reduceBNe, Int.reduceToNat, Int.reduceGT, Int.reduceGE, ↓reduceIte, decide_true, decide_false, eq_self, Nat.mul_one, Nat.zero_mul, Nat.one_mul, Int.le_refl, Nat.le_refl, Int.cast_ofNat_Int, hlt, d1, hb]
    refine hI1 _ ⟨k + 1, by omega, he⟩ (by simp only; omega) ?_
    simp (decide := true) (maxSteps := 4000000) only [go_sem, Nat.reduceAdd, Nat.reduceSub, Nat.reduceMul, Nat.reduceDiv, Nat.reduceMod, Nat.reduceLT, Nat.reduceLeDiff, Nat.reduceEqDiff, Nat.reduceBEq, Nat.reduceBNe, Nat.reduceGT, Int.reduceAdd, Int.reduceSub, Int.reduceMul, Int.reduceNeg, Int.reduceLT, Int.reduceLE, Int.reduceEq, Int.reduceNe, Int.reduceBEq, Int.reduceBNe, Int.reduceToNat, Int.reduceGT, Int.reduceGE, ↓reduceIte, decide_true, decide_false, eq_self, Nat.mul_one, Nat.zero_mul, Nat.one_mul, Int.le_refl, Nat.le_refl, Int.cast_ofNat_Int, hw]
  ·have hkl : k = l.length := by omega
   subst hkl
   rw [List.drop_length, fIdx_nil] at he
   simp (decide := true) (maxSteps := 4000000) only [go_sem, Nat.reduceAdd, Nat.reduceSub, Nat.reduceMul, Nat.reduceDiv, Nat.reduceMod, Nat.reduceLT, Nat.reduceLeDiff, Nat.reduceEqDiff, Nat.reduceBEq, Nat.reduceBNe, Nat.reduceGT, Int.reduceAdd, Int.reduceSub, Int.reduceMul, Int.reduceNeg, Int.reduceLT, Int.reduceLE, Int.reduceEq, Int.reduceNe, Int.reduceBEq, Int.reduceBNe, Int.reduceToNat, Int.reduceGT, Int.reduceGE, ↓reduceIte, decide_true, decide_false, eq_self, Nat.mul_one, Nat.zero_mul, Nat.one_mul, Int.le_refl, Nat.le_refl, Int.cast_ofNat_Int, hlt]
   refine hQ1 _ _ ?_
   simp (decide := true) (maxSteps := 4000000) only [go_sem, Nat.reduceAdd, Nat.reduceSub, Nat.reduceMul, Nat.reduceDiv, Nat.reduceMod, Nat.reduceLT, Nat.reduceLeDiff, Nat.reduceEqDiff, Nat.reduceBEq, Nat.reduceBNe, Nat.reduceGT, Int.reduceAdd, Int.reduceSub, Int.reduceMul, Int.reduceNeg, Int.reduceLT, Int.reduceLE, Int.reduceEq, Int.reduceNe, Int.reduceBEq, Int.reduceBNe, Int.reduceToNat, Int.reduceGT, Int.reduceGE, ↓reduceIte, decide_true, decide_false, eq_self, Nat.mul_one, Nat.zero_mul, Nat.one_mul, Int.le_refl, Nat.le_refl, Int.cast_ofNat_Int, ← he]
   first | done | trace_state
theorem sIndexNil_c (v : Int) : PCalls Tryd.prog 150 [.nilSl, .int .i64 v] (.int .i64 (-1)) := by
 refine pcalls_by Tryd.mixes noSpec_ok (fn := Tryd.f150) Tryd.func150 rfl (by kernel_rfl) (by show 2 ≤ _; decide) ?_
 simp (decide := true) (maxSteps := 4000000) only [go_sem, Nat.reduceAdd, Nat.reduceSub, Nat.reduceMul, Nat.reduceDiv, Nat.reduceMod, Nat.reduceLT, Nat.reduceLeDiff, Nat.reduceEqDiff, Nat.reduceBEq, Nat.reduceBNe, Nat.reduceGT, Int.reduceAdd, Int.reduceSub, Int.reduceMul, Int.reduceNeg, Int.reduceLT, Int.reduceLE, Int.reduceEq, Int.reduceNe, Int.reduceBEq, Int.reduceBNe, Int.reduceToNat, Int.reduceGT, Int.reduceGE, ↓reduceIte, decide_true, decide_false, eq_self, Nat.mul_one, Nat.zero_mul, Nat.one_mul, Int.le_refl, Nat.le_refl, Int.cast_ofNat_Int, Tryd.f150]
 refine pwpC_loopU (A := Unit) [0, 1, 7] (fun k => [(8, .t (.int .i64 0))]) (fun _ => []) (fun k => 0) () (by decide) (fun _ => by rfl) ?_ fun Q1 hQ1 _ I1 hI1 => ?_
 ·simp (decide := true) (maxSteps := 4000000) only [go_sem, Nat.reduceAdd, Nat.reduceSub, Nat.reduceMul, Nat.reduceDiv, Nat.reduceMod, Nat.reduceLT, Nat.reduceLeDiff, Nat.reduceEqDiff, Nat.reduceBEq, Nat.reduceBNe, Nat.reduceGT, Int.reduceAdd, Int.reduceSub, Int.reduceMul, Int.reduceNeg, Int.reduceLT, Int.reduceLE, Int.reduceEq, Int.reduceNe, Int.reduceBEq, Int.reduceBNe, Int.reduceToNat, Int.reduceGT, Int.reduceGE, ↓reduceIte, decide_true, decide_false, eq_self, Nat.mul_one, Nat.zero_mul, Nat.one_mul, Int.le_refl, Nat.le_refl, Int.cast_ofNat_Int]
 ·simp (decide := true) (maxSteps := 4000000) only [go_sem, Nat.reduceAdd, Nat.reduceSub, Nat.reduceMul, Nat.reduceDiv, Nat.reduceMod, Nat.reduceLT, Nat.reduceLeDiff, Nat.reduceEqDiff, Nat.reduceBEq, Nat.reduceBNe, Nat.reduceGT, Int.reduceAdd, Int.reduceSub, Int.reduceMul, Int.reduceNeg, Int.reduceLT, Int.reduceLE, Int.reduceEq, Int.reduceNe, Int.reduceBEq, Int.reduceBNe, Int.reduceToNat, Int.reduceGT, Int.reduceGE, ↓reduceIte, decide_true, decide_false, eq_self, Nat.mul_one, Nat.zero_mul, Nat.one_mul, Int.le_refl, Nat.le_refl, Int.cast_ofNat_Int]
  refine hQ1 _ _ ?_
  simp (decide := true) (maxSteps := 4000000) only [go_sem, Nat.reduceAdd, Nat.reduceSub, Nat.reduceMul, Nat.reduceDiv, Nat.reduceMod, Nat.reduceLT, Nat.reduceLeDiff, Nat.reduceEqDiff, Nat.reduceBEq, Nat.reduceBNe, Nat.reduceGT, Int.reduceAdd, Int.reduceSub, Int.reduceMul, Int.reduceNeg, Int.reduceLT, Int.reduceLE, Int.reduceEq, Int.reduceNe, Int.reduceBEq, Int.reduceBNe, Int.reduceToNat, Int.reduceGT, Int.reduceGE, ↓reduceIte, decide_true, decide_false, eq_self, Nat.mul_one, Nat.zero_mul, Nat.one_mul, Int.le_refl, Nat.le_refl, Int.cast_ofNat_Int]
  first | done | trace_state
noncomputable def scIndex : List TV → Option TV
 | [.nilSl, .int .i64 v] => some (.int .i64 (-1))
 | [.sl cs n f, .int .i64 v] => match unI cs with
  | some l => if n = l.length ∧ l.length ≤ 1000000 then some (.int .i64 (fIdx v 0 l)) else none
  | none => none
 | _ => none
theorem scIndex_ok : ∀ xs r, scIndex xs = some r → PCalls Tryd.prog 150 xs r := by
 intro xs r h
 unfold scIndex at h
 split at h
 ·cases h; exact sIndexNil_c _
 ·split at h
  ·rename_i l hl
   split at h
   ·rename_i hc; cases h
    obtain ⟨rfl, hc⟩ := hc
    have e := unI_some hl
    rw [ic_ints] at e
    subst e
    exact sIndex_c _ hc _
   ·cases h
  ·cases h
 ·cases h
attribute [go_sem] scIndex
noncomputable def spGi : Pm.Spec := noSpec.one 150 scIndex
@[go_sem] theorem spGi_p (f : FuncId) (xs : List TV) : spGi.p f xs = Pm.Spec.p (noSpec.one 150 scIndex) f xs := rfl
@[go_sem] theorem spGi_h (f : FuncId) (ps : List PV) (hl : List PO) : spGi.h f ps hl = Pm.Spec.h (noSpec.one 150 scIndex) f ps hl := rfl
@[go_sem] theorem spGi_y (Y : Pm.YS) (f : FuncId) (ps : List PV) (hl : List PO) : spGi.y Y f ps hl = Pm.Spec.y (noSpec.one 150 scIndex) Y f ps hl := rfl
@[go_sem] theorem spGi_fz (f : FuncId) : spGi.fz f = Pm.Spec.fz (noSpec.one 150 scIndex) f := rfl
@[go_sem] theorem spGi_fr (f : FuncId) : spGi.fr f = Pm.Spec.fr (noSpec.one 150 scIndex) f := rfl
@[go_sem] theorem spGi_yf (f : FuncId) : spGi.yf f = Pm.Spec.yf (noSpec.one 150 scIndex) f := rfl
@[go_sem] theorem spGi_gd : spGi.gd = Pm.Spec.gd (noSpec.one 150 scIndex) := rfl
@[go_sem] theorem spGi_mu (t : TypeId) : spGi.mu t = Pm.Spec.mu (noSpec.one 150 scIndex) t := rfl
@[go_sem] theorem spGi_nf (t : TypeId) : spGi.nf t = Pm.Spec.nf (noSpec.one 150 scIndex) t := rfl
theorem spGi_ok : SpecOk Tryd.prog spGi := Spec.one_ok scIndex_ok noSpec_ok
noncomputable def scContains : List TV → Option TV
 | [.nilSl, .int .i64 v] => some (.bool false)
 | [.sl cs n f, .int .i64 v] => match unI cs with
  | some l => if n = l.length ∧ l.length ≤ 1000000 then some (.bool (l.contains v)) else none
  | none => none
 | _ => none
theorem scContains_ok : ∀ xs r, scContains xs = some r → PCalls Tryd.prog 115 xs r := by
 intro xs r h
 unfold scContains at h
 split at h
 ·cases h
  refine pcalls_by Tryd.mixes spGi_ok (fn := Tryd.f115) Tryd.func115 rfl (by kernel_rfl) (by show 2 ≤ _; decide) ?_
  simp (decide := true) (maxSteps := 4000000) only [go_sem, Nat.reduceAdd, Nat.reduceSub, Nat.reduceMul, Nat.reduceDiv, Nat.reduceMod, Nat.reduceLT, Nat.reduceLeDiff, Nat.reduceEqDiff, Nat.reduceBEq, Nat.reduceBNe, Nat.reduceGT, Int.reduceAdd, Int.reduceSub, Int.reduceMul, Int.reduceNeg, Int.reduceLT, Int.reduceLE, Int.reduceEq, Int.reduceNe, Int.reduceBEq, Int.reduceBNe, Int.reduceToNat, Int.reduceGT, Int.reduceGE, ↓reduceIte, decide_true, decide_false, eq_self, Nat.mul_one, Nat.zero_mul, Nat.one_mul, Int.le_refl, Nat.le_refl, Int.cast_ofNat_Int, Tryd.f115]
  first | done | trace_state
 ·split at h
  ·rename_i cs n f v _ l hl
   split at h
   ·rename_i hc; cases h
    obtain ⟨rfl, hc⟩ := hc
    have e := unI_some hl
    rw [ic_ints] at e
    subst e
    have hd : decide (fIdx v 0 l ≥ 0) = l.contains v := by
     rw [Bool.eq_iff_iff, decide_eq_true_eq, fIdx_in, List.contains_iff_mem]
    refine pcalls_by Tryd.mixes spGi_ok (fn := Tryd.f115) Tryd.func115 rfl (by kernel_rfl) (by show 2 ≤ _; decide) ?_
    simp (decide := true) (maxSteps := 4000000) only [go_sem, Nat.reduceAdd, Nat.reduceSub, Nat.reduceMul, Nat.reduceDiv, Nat.reduceMod, Nat.reduceLT, Nat.reduceLeDiff, Nat.reduceEqDiff, Nat.reduceBEq, Nat.reduceBNe, Nat.reduceGT, Int.reduceAdd, Int.reduceSub, Int.reduceMul, Int.reduceNeg, Int.reduceLT, Int.reduceLE, Int.reduceEq, Int.reduceNe, Int.reduceBEq, Int.reduceBNe, Int.reduceToNat, Int.reduceGT, Int.reduceGE, ↓reduceIte, decide_true, decide_false, eq_self, Nat.mul_one, Nat.zero_mul, Nat.one_mul, Int.le_refl, Nat.le_refl, Int.cast_ofNat_Int, Tryd.f115, unIs, hc, hd]
    first | done | trace_state
   ·cases h
  ·cases h
 ·cases h
attribute [go_sem] scContains
noncomputable def spGm : Pm.Spec := { noSpec with mu := fun t => t == 22 }
@[go_sem] theorem spGm_p (f : FuncId) (xs : List TV) : spGm.p f xs = Pm.Spec.p ({ noSpec with mu := fun t => t == 22 }) f xs := rfl
@[go_sem] theorem spGm_h (f : FuncId) (ps : List PV) (hl : List PO) : spGm.h f ps hl = Pm.Spec.h ({ noSpec with mu := fun t => t == 22 }) f ps hl := rfl
@[go_sem] theorem spGm_y (Y : Pm.YS) (f : FuncId) (ps : List PV) (hl : List PO) : spGm.y Y f ps hl = Pm.Spec.y ({ noSpec with mu := fun t => t == 22 }) Y f ps hl := rfl
@[go_sem] theorem spGm_fz (f : FuncId) : spGm.fz f = Pm.Spec.fz ({ noSpec with mu := fun t => t == 22 }) f := rfl
@[go_sem] theorem spGm_fr (f : FuncId) : spGm.fr f = Pm.Spec.fr ({ noSpec with mu := fun t => t == 22 }) f := rfl
@[go_sem] theorem spGm_yf (f : FuncId) : spGm.yf f = Pm.Spec.yf ({ noSpec with mu := fun t => t == 22 }) f := rfl
@[go_sem] theorem spGm_gd : spGm.gd = Pm.Spec.gd ({ noSpec with mu := fun t => t == 22 }) := rfl
@[go_sem] theorem spGm_mu (t : TypeId) : spGm.mu t = Pm.Spec.mu ({ noSpec with mu := fun t => t == 22 }) t := rfl
@[go_sem] theorem spGm_nf (t : TypeId) : spGm.nf t = Pm.Spec.nf ({ noSpec with mu := fun t => t == 22 }) t := rfl
theorem spGm_ok : SpecOk Tryd.prog spGm := ⟨noSpec_ok.1, noSpec_ok.2⟩
theorem sClone_c (l : List Int) (f : Bool) (h1 : 1 ≤ l.length) (hl : l.length ≤ 1000) : HCalls Tryd.prog 116 [.t (.sl (ints l) l.length f)] (getL []) (.gsl 0 1 1 0 l.length false) (getL [.grow 1 ((ints l).map .t) 3 1]) := by
 have h8 : l.length * 8 ≤ 140737488355328 := by omega
 have hln := ints_len l
 have h0 : ¬ l.length = 0 := by omega
 refine hcalls_by Tryd.mixes spGm_ok (fn := Tryd.f116) Tryd.func116 rfl (by kernel_rfl) (by show 1 ≤ _; decide) ?_
 simp (decide := true) (maxSteps := 4000000) only [go_sem, Nat.reduceAdd, Nat.reduceSub, Nat.reduceMul, Nat.reduceDiv, Nat.reduceMod, Nat.reduceLT, Nat.reduceLeDiff, Nat.reduceEqDiff, Nat.reduceBEq, Nat.reduceBNe, Nat.reduceGT, Int.reduceAdd, Int.reduceSub, Int.reduceMul, Int.reduceNeg, Int.reduceLT, Int.reduceLE, Int.reduceEq, Int.reduceNe, Int.reduceBEq, Int.reduceBNe, Int.reduceToNat, Int.reduceGT, Int.reduceGE, ↓reduceIte, decide_true, decide_false, eq_self, Nat.mul_one, Nat.zero_mul, Nat.one_mul, Int.le_refl, Nat.le_refl, Int.cast_ofNat_Int, Tryd.f116, h0, h8, hln, Nat.mul_one]
 exact ⟨_, rfl, rfl⟩
theorem sCloneNil_c : HCalls Tryd.prog 116 [.t .nilSl] (getL []) (.t .nilSl) (getL []) := by
 refine hcalls_by Tryd.mixes spGm_ok (fn := Tryd.f116) Tryd.func116 rfl (by kernel_rfl) (by show 1 ≤ _; decide) ?_
 simp (decide := true) (maxSteps := 4000000) only [go_sem, Nat.reduceAdd, Nat.reduceSub, Nat.reduceMul, Nat.reduceDiv, Nat.reduceMod, Nat.reduceLT, Nat.reduceLeDiff, Nat.reduceEqDiff, Nat.reduceBEq, Nat.reduceBNe, Nat.reduceGT, Int.reduceAdd, Int.reduceSub, Int.reduceMul, Int.reduceNeg, Int.reduceLT, Int.reduceLE, Int.reduceEq, Int.reduceNe, Int.reduceBEq, Int.reduceBNe, Int.reduceToNat, Int.reduceGT, Int.reduceGE, ↓reduceIte, decide_true, decide_false, eq_self, Nat.mul_one, Nat.zero_mul, Nat.one_mul, Int.le_refl, Nat.le_refl, Int.cast_ofNat_Int, Tryd.f116]
 exact ⟨_, rfl, rfl⟩
noncomputable def scClone : List PV → List PO → Option (PV × List PO)
 | [.t .nilSl], [] => some (.t .nilSl, [])
 | [.t (.sl cs n f)], [] => match unI cs with
  | some l => if (1 ≤ l.length ∧ l.length ≤ 1000) ∧ n = l.length then some (.gsl 0 1 1 0 l.length false, [.grow 1 ((ints l).map .t) 3 1]) else none
  | none => none
 | _, _ => none
theorem scClone_ok : ∀ xs hl r hl', scClone xs hl = some (r, hl') → HCalls Tryd.prog 116 xs (getL hl) r (getL hl') := by
 intro xs hl r hl' h
 unfold scClone at h
 split at h
 ·simp only [Option.some.injEq, Prod.mk.injEq] at h
  obtain ⟨rfl, rfl⟩ := h
  exact sCloneNil_c
 ·split at h
  ·rename_i l hl
   split at h
   ·rename_i hc
    simp only [Option.some.injEq, Prod.mk.injEq] at h
    obtain ⟨rfl, rfl⟩ := h
    obtain ⟨h1, rfl⟩ := hc
    have e := unI_some hl
    rw [ic_ints] at e
    subst e
    exact sClone_c l _ h1.1 h1.2
   ·cases h
  ·cases h
 ·cases h
attribute [go_sem] scClone
end Go.Proofs.YtlonlnfenbadbaaDoor

/- Part TGc. -/
namespace Go.Ow
open Go Go.RowKit Go.Pm Go.Oc Go.Oh
def preY (Y : YS) (k : Nat) (D : List (List Int)) : Prop := (∀ (i : Nat) (g : List Int), D[i]? = some g → k + i < Y.m → Y.xs[k + i]? = some [gT g]) ∧ (Y.stop = false → k + D.length ≤ Y.m) ∧ (Y.stop = true → k < Y.m)
def outY (Y : YS) (k L : Nat) : Bool × Nat := if Y.stop = true ∧ Y.m ≤ k + L then (false, Y.m) else (true, k + L)
noncomputable def decG : TV → Option (List Int)
 | .nilSl => some []
 | .sl cs n false => match unI cs with
  | some l => if n = l.length ∧ l.length ≠ 0 then some l else none
  | none => none
 | _ => none
theorem decG_some {t : TV} {l : List Int} (h : decG t = some l) : t = gT l := by
 unfold decG at h
 split at h
 ·cases h; rfl
 ·split at h
  ·rename_i cs n _ l' hl
   split at h
   ·rename_i hc
    cases h
    have e := unI_some hl
    rw [ic_ints] at e
    rw [e, hc.1]; unfold gT; rw [if_neg hc.2]
   ·cases h
  ·cases h
 ·cases h
theorem pre_part {Y : YS} {k n d : Nat} {l : List Int} {i : Nat} (hi : i < n) (hc : l.contains (i : Int) = false) (h : preY Y k (dfs n (d + 1) l)) (hs : ¬ (Y.stop = true ∧ Y.m ≤ k + (dfsTo n d l i).length)) : preY Y (k + (dfsTo n d l i).length) (dfs n d (l ++ [(i : Int)])) := by
 obtain ⟨h1, h2, h3⟩ := h
 have hsplit : ∃ R, dfs n (d + 1) l = dfsTo n d l i ++ (dfs n d (l ++ [(i : Int)]) ++ R) := by
  have e : ∀ m, i < m → ∃ R, dfsTo n d l m = dfsTo n d l i ++ (dfs n d (l ++ [(i : Int)]) ++ R) := by
   intro m hm
   induction m with
   | zero => omega
   | succ m ih =>
    by_cases hm2 : i = m
    ·subst hm2
     exact ⟨[], by rw [dfsTo_succ, hc]; simp⟩
    ·obtain ⟨R, hR⟩ := ih (by omega)
     exact ⟨R ++ (if l.contains (m : Int) then [] else dfs n d (l ++ [(m : Int)])), by rw [dfsTo_succ, hR]; simp [List.append_assoc]⟩
  exact e n hi
 obtain ⟨R, hR⟩ := hsplit
 rw [hR] at h1 h2
 refine ⟨fun j g hg hj => ?_, fun e => ?_, fun e => ?_⟩
 ·have := h1 ((dfsTo n d l i).length + j) g (by
   rw [List.getElem?_append_right (by omega), show (dfsTo n d l i).length + j - (dfsTo n d l i).length = j by omega, List.getElem?_append_left (List.getElem?_eq_some_iff.1 hg).1]; exact hg) (by omega)
  rwa [← Nat.add_assoc] at this
 ·have := h2 e
  simp only [List.length_append] at this
  omega
 ·have : ¬ Y.m ≤ k + (dfsTo n d l i).length := fun hle => hs ⟨e, hle⟩
  omega
theorem dfsTo_le {n d : Nat} {l : List Int} : ∀ {i j : Nat}, i ≤ j → (dfsTo n d l i).length ≤ (dfsTo n d l j).length
 | i, 0, h => by rw [show i = 0 by omega]; exact Nat.le_refl _
 | i, j + 1, h => by
  by_cases e : i = j + 1
  ·subst e; exact Nat.le_refl _
  ·have := dfsTo_le (n := n) (d := d) (l := l) (show i ≤ j by omega)
   rw [dfsTo_succ, List.length_append]; omega
end Go.Ow
namespace Go.Proofs.YtlonlnfenbadbaaDoor
open Go.RowKit Go.Pm Go.Oc Go.Oh Go.Ow
set_option maxRecDepth 100000
set_option linter.unusedVariables false
set_option maxHeartbeats 8000000

def lonT (y : Nat) (W : List Int) (f : Bool) (num den : Int) : List PO := [.box [.yld y], .box [.t (.sl (ints W) W.length f), .t (.int .i64 num), .t (.int .i64 den)], .box [.fnc 114 [1, 2, 3]]]
open Classical in
noncomputable def gLon (W : List Int) (f : Bool) (num den : Int) (d : Nat) : YS → List PV → List PO → Option (PV × List PO) := fun Y ps hl => match ps, hl with
 | [.t gv, .t (.int .i64 m), .ptr 1 0, .ptr 2 0, .ptr 3 0], .cnt k :: tl => match decG gv with
  | some l => if m = d ∧ tl = lonT Y.l W f num den ∧ gOk W.length l.length l ∧ l.length + d ≤ 4 ∧ preY Y k (dfs W.length d l) then
    some (.t (.bool (outY Y k (dfs W.length d l).length).1), .cnt (outY Y k (dfs W.length d l).length).2 :: lonT Y.l W f num den) else none
  | none => none
 | _, _ => none
def LonC (W : List Int) (f : Bool) (num den : Int) (d : Nat) : Prop := ∀ (Y : YS) (l : List Int) (k : Nat), gOk W.length l.length l → l.length + d ≤ 4 → preY Y k (dfs W.length d l) →
 YCalls Tryd.prog Y 114 [.t (gT l), .t (.int .i64 d), .ptr 1 0, .ptr 2 0, .ptr 3 0] (getL (.cnt k :: lonT Y.l W f num den)) (.t (.bool (outY Y k (dfs W.length d l).length).1)) (getL (.cnt (outY Y k (dfs W.length d l).length).2 :: lonT Y.l W f num den))
theorem gLon_ok {W : List Int} {f : Bool} {num den : Int} {d : Nat} (h : LonC W f num den d) : ∀ Y xs hl r hl', gLon W f num den d Y xs hl = some (r, hl') → YCalls Tryd.prog Y 114 xs (getL hl) r (getL hl') := by
 intro Y xs hl r hl' e
 unfold gLon at e
 split at e
 ·split at e
  ·rename_i l hl
   split at e
   ·rename_i hc
    obtain ⟨rfl, rfl, h1, h2, h3⟩ := hc
    simp only [Option.some.injEq, Prod.mk.injEq] at e
    obtain ⟨rfl, rfl⟩ := e
    rw [decG_some hl]
    exact h Y l _ h1 h2 h3
   ·cases e
  ·cases e
 ·cases e
open Classical in
@[go_sem] theorem gLon_eq (W : List Int) (f : Bool) (num den : Int) (d : Nat) (Y : YS) (gv : TV) (m : Int) (k : Nat) (tl : List PO) : gLon W f num den d Y [.t gv, .t (.int .i64 m), .ptr 1 0, .ptr 2 0, .ptr 3 0] (.cnt k :: tl) = match decG gv with
  | some l => if m = d ∧ tl = lonT Y.l W f num den ∧ gOk W.length l.length l ∧ l.length + d ≤ 4 ∧ preY Y k (dfs W.length d l) then
    some (.t (.bool (outY Y k (dfs W.length d l).length).1), .cnt (outY Y k (dfs W.length d l).length).2 :: lonT Y.l W f num den) else none
  | none => none := rfl
theorem lon_zero (W : List Int) (f : Bool) (num den : Int) : LonC W f num den 0 := by
 intro Y l k h1 h2 h3
 have hk : k < Y.m := by
  cases hs : Y.stop with
  | true => exact h3.2.2 hs
  | false => have := h3.2.1 hs; simp only [dfs, List.length_cons, List.length_nil] at this; omega
 have hx := h3.1 0 l rfl (by omega)
 rw [Nat.add_zero] at hx
 have o1 : (outY Y k (dfs W.length 0 l).length).1 = !(Y.stop && k + 1 == Y.m) := by
  show (outY Y k 1).1 = _
  unfold outY
  cases hs : Y.stop
  ·simp
  ·by_cases hm : Y.m ≤ k + 1
   ·have : k + 1 = Y.m := by omega
    simp [this]
   ·have : ¬ k + 1 = Y.m := by omega
    simp [hm, this]
 have o2 : (outY Y k (dfs W.length 0 l).length).2 = k + 1 := by
  show (outY Y k 1).2 = _
  unfold outY
  split
  ·rename_i h; simp only; omega
  ·rfl
 rw [o1, o2]
 refine ycalls_by Tryd.mixes noSpec_ok (fn := Tryd.f114) Tryd.func114 rfl (by kernel_rfl) (by show 5 ≤ _; decide) ?_
 simp (decide := true) (maxSteps := 4000000) only [go_sem, Nat.reduceAdd, Nat.reduceSub, Nat.reduceMul, Nat.reduceDiv, Nat.reduceMod, Nat.reduceLT, Nat.reduceLeDiff, Nat.reduceEqDiff, Nat.reduceBEq, Nat.reduceBNe, Nat.reduceGT, Int.reduceAdd, Int.reduceSub, Int.reduceMul, Int.reduceNeg, Int.reduceLT, Int.reduceLE, Int.reduceEq, Int.reduceNe, Int.reduceBEq, Int.reduceBNe, Int.reduceToNat, Int.reduceGT, Int.reduceGE, ↓reduceIte, decide_true, decide_false, eq_self, Nat.mul_one, Nat.zero_mul, Nat.one_mul, Int.le_refl, Nat.le_refl, Int.cast_ofNat_Int, Tryd.f114, lonT, hk, hx]
 exact ⟨_, rfl, rfl⟩
noncomputable def spLon (W : List Int) (f : Bool) (num den : Int) (d : Nat) : Pm.Spec := { (((noSpec.one 115 scContains).oneH 116 scClone).oneY 114 (gLon W f num den d)) with mu := fun t => t == 22, fr := fun g => g == 114, gd := true }
theorem spLon_ok {W : List Int} {f : Bool} {num den : Int} {d : Nat} (h : LonC W f num den d) : SpecOk Tryd.prog (spLon W f num den d) := Spec.oneY_ok (gLon_ok h) (Spec.oneH_ok scClone_ok (Spec.one_ok scContains_ok noSpec_ok))
@[go_sem] theorem spLon_p (W : List Int) (f : Bool) (num den : Int) (d : Nat) (g : FuncId) (xs : List TV) : (spLon W f num den d).p g xs = if g = 115 then scContains xs else none := rfl
@[go_sem] theorem spLon_h (W : List Int) (f : Bool) (num den : Int) (d : Nat) (g : FuncId) (ps : List PV) (hl : List PO) : (spLon W f num den d).h g ps hl = if g = 116 then scClone ps hl else none := rfl
@[go_sem] theorem spLon_y (W : List Int) (f : Bool) (num den : Int) (d : Nat) (Y : YS) (g : FuncId) (ps : List PV) (hl : List PO) : (spLon W f num den d).y Y g ps hl = if g = 114 then gLon W f num den d Y ps hl else none := rfl
@[go_sem] theorem spLon_fz (W : List Int) (f : Bool) (num den : Int) (d : Nat) (g : FuncId) : (spLon W f num den d).fz g = false := rfl
@[go_sem] theorem spLon_fr (W : List Int) (f : Bool) (num den : Int) (d : Nat) (g : FuncId) : (spLon W f num den d).fr g = (g == 114) := rfl
@[go_sem] theorem spLon_yf (W : List Int) (f : Bool) (num den : Int) (d : Nat) (g : FuncId) : (spLon W f num den d).yf g = (g == 114 || false) := rfl
@[go_sem] theorem spLon_gd (W : List Int) (f : Bool) (num den : Int) (d : Nat) : (spLon W f num den d).gd = true := rfl
@[go_sem] theorem spLon_mu (W : List Int) (f : Bool) (num den : Int) (d : Nat) (t : TypeId) : (spLon W f num den d).mu t = (t == 22) := rfl
@[go_sem] theorem spLon_nf (W : List Int) (f : Bool) (num den : Int) (d : Nat) (t : TypeId) : (spLon W f num den d).nf t = false := rfl
theorem gT_nil : gT [] = .nilSl := rfl
theorem gT_ne {l : List Int} (h : ¬ l.length = 0) : gT l = .sl (ints l) l.length false := by unfold gT; rw [if_neg h]
theorem gOk_snoc {n : Nat} {l : List Int} (h : gOk n l.length l) {i : Nat} (hi : i < n) (hc : l.contains (i : Int) = false) : gOk n (l ++ [(i : Int)]).length (l ++ [(i : Int)]) := by
 have hc : (i : Int) ∉ l := fun e => by rw [List.contains_iff_mem.2 e] at hc; cases hc
 exact ⟨rfl, by rw [List.nodup_append]; exact ⟨h.2.1, by simp, fun a ha b hb => by rw [List.mem_singleton] at hb; subst hb; intro e; subst e; exact hc ha⟩, fun x hx => by
  rcases List.mem_append.1 hx with hx | hx
  ·exact h.2.2 x hx
  ·rw [List.mem_singleton] at hx; subst hx; omega⟩
theorem fz1 (h : Hp) (xs : List TV) (y : TV) : allO (List.map (thawC h) (List.map PV.t xs ++ [PV.t y])) = some (xs ++ [y]) := by
 have e : (List.map PV.t xs ++ [PV.t y]) = List.map PV.t (xs ++ [y]) := by simp
 rw [e, List.map_map]
 have e2 : thawC h ∘ PV.t = fun x => some x := by funext x; rfl
 rw [e2]
 generalize xs ++ [y] = zs
 induction zs with
 | nil => rfl
 | cons z zs ih => simp [allO, ih]
theorem fz3 (xs : List TV) : (List.map PV.t xs).flatMap idsG = [] := by
 induction xs with
 | nil => rfl
 | cons x xs ih => simp [idsG]
theorem fz2 (xs : List TV) (y : TV) : (List.map PV.t xs ++ [PV.t y]).flatMap idsG = [] := by
 rw [List.flatMap_append, fz3]; rfl
theorem lon_succ {W : List Int} {f : Bool} {num den : Int} {d : Nat} (hW : W.length ≤ 10) (hd : d ≤ 3) (ih : LonC W f num den d) : LonC W f num den (d + 1) := by
 intro Y l k h1 h2 h3
 have hb : (((d + 1 : Nat) : Int) == 0) = false := beq_int_f (by omega)
 have hm1 : IntKind.i64.wrap (((d + 1 : Nat) : Int) - 1) = (d : Int) := by rw [wrap_in (by omega) (by omega)]; omega
 have hl6 : l.length ≤ 1000000 := by omega
 have hl3 : l.length ≤ 1000 := by omega
 have hl8 : (l.length + 1) * 8 ≤ 140737488355328 := by omega
 have hui := unIs l
 have hil := ints_len l
 obtain ⟨⟨ob, oc⟩, hout⟩ : ∃ o, outY Y k (dfs W.length (d + 1) l).length = o := ⟨_, rfl⟩
 rw [hout]
 refine ycalls_by Tryd.mixes (spLon_ok ih) (fn := Tryd.f114) Tryd.func114 rfl (by kernel_rfl) (by show 5 ≤ _; decide) ?_
 simp (decide := true) (maxSteps := 4000000) only [go_sem, Nat.reduceAdd, Nat.reduceSub, Nat.reduceMul, Nat.reduceDiv, Nat.reduceMod, Nat.reduceLT, Nat.reduceLeDiff, Nat.reduceEqDiff, Nat.reduceBEq, Nat.reduceBNe, Nat.reduceGT, Int.reduceAdd, Int.reduceSub, Int.reduceMul, Int.reduceNeg, Int.reduceLT, Int.reduceLE, Int.reduceEq, Int.reduceNe, Int.reduceBEq, Int.reduceBNe, Int.reduceToNat, Int.reduceGT, Int.reduceGE, ↓reduceIte, decide_true, decide_false, eq_self, Nat.mul_one, Nat.zero_mul, Nat.one_mul, Int.le_refl, Nat.le_refl, Int.cast_ofNat_Int, Tryd.f114, lonT, hb]
 refine pwpC_loopU (A := { i : Nat // i ≤ W.length ∧ ¬ (Y.stop = true ∧ Y.m ≤ k + (dfsTo W.length d l i).length) }) [0, 1, 2, 3, 4, 17] (fun i => [(18, .t (.int .i64 i.1))]) (fun i => [(0, .cnt (k + (dfsTo W.length d l i.1).length))]) (fun i => W.length - i.1) ⟨0, by omega, by
   simp only [dfsTo, List.range_zero, List.flatMap_nil, List.length_nil, Nat.add_zero]
   intro e; have := h3.2.2 e.1; omega⟩ (by decide) (fun _ => by rfl) ?_ fun Q1 hQ1 ⟨i, hi, hns⟩ I1 hI1 => ?_
 ·simp (decide := true) (maxSteps := 4000000) only [go_sem, Nat.reduceAdd, Nat.reduceSub, Nat.reduceMul, Nat.reduceDiv, Nat.reduceMod, Nat.reduceLT, Nat.reduceLeDiff, Nat.reduceEqDiff, Nat.reduceBEq, Nat.reduceBNe, Nat.reduceGT, Int.reduceAdd, Int.reduceSub, Int.reduceMul, Int.reduceNeg, Int.reduceLT, Int.reduceLE, Int.reduceEq, Int.reduceNe, Int.reduceBEq, Int.reduceBNe, Int.reduceToNat, Int.reduceGT, Int.reduceGE, ↓reduceIte, decide_true, decide_false, eq_self, Nat.mul_one, Nat.zero_mul, Nat.one_mul, Int.le_refl, Nat.le_refl, Int.cast_ofNat_Int, show dfsTo W.length d l 0 = [] from rfl]
  first | done | trace_state
 ·by_cases hlt : (i : Int) < W.length
  ·have hi1 : IntKind.i64.wrap ((i : Int) + 1) = ((i + 1 : Nat) : Int) := by rw [wrap_in (by omega) (by omega)]; omega
   have hsu := dfsTo_succ W.length d l i
   cases hc : l.contains (i : Int) with
   | true =>
    have h0 : ¬ l.length = 0 := fun e => by rw [List.eq_nil_of_length_eq_zero e] at hc; cases hc
    have hg := gT_ne h0
    rw [hc, if_pos rfl, List.append_nil] at hsu
    simp (decide := true) (maxSteps := 4000000) only [go_sem, Nat.reduceAdd, Nat.reduceSub, Nat.reduceMul, Nat.reduceDiv, Nat.reduceMod, Nat.reduceLT, Nat.reduceLeDiff, Nat.reduceEqDiff, Nat.reduceBEq, Nat.reduceBNe, Nat.reduceGT, Int.reduceAdd, Int.reduceSub, Int.reduceMul, Int.reduceNeg, Int.reduceLT, Int.reduceLE, Int.reduceEq, Int.reduceNe, Int.reduceBEq, Int.reduceBNe, Int.reduceToNat, Int.reduceGT, Int.reduceGE, ↓reduceIte, decide_true, decide_false, eq_self, Nat.mul_one, Nat.zero_mul, Nat.one_mul, Int.le_refl, Nat.le_refl, Int.cast_ofNat_Int, hlt, hg, hui, hl6, hc]
    refine hI1 _ ⟨i + 1, by omega, by rw [hsu]; exact hns⟩ (by simp only; omega) ?_
    simp (decide := true) (maxSteps := 4000000) only [go_sem, Nat.reduceAdd, Nat.reduceSub, Nat.reduceMul, Nat.reduceDiv, Nat.reduceMod, Nat.reduceLT, Nat.reduceLeDiff, Nat.reduceEqDiff, Nat.reduceBEq, Nat.reduceBNe, Nat.reduceGT, Int.reduceAdd, Int.reduceSub, Int.reduceMul, Int.reduceNeg, Int.reduceLT, Int.reduceLE, Int.reduceEq, Int.reduceNe, Int.reduceBEq, Int.reduceBNe, Int.reduceToNat, Int.reduceGT, Int.reduceGE, ↓reduceIte, decide_true, decide_false, eq_self, Nat.mul_one, Nat.zero_mul, Nat.one_mul, Int.le_refl, Nat.le_refl, Int.cast_ofNat_Int, hi1, hsu, hg]
   | false =>
    have hpre := pre_part (d := d) (show i < W.length by omega) hc h3 hns
    have hgo := gOk_snoc h1 (show i < W.length by omega) hc
    rw [hc] at hsu
    simp only [Bool.false_eq_true, if_false] at hsu
    have hsl : k + (dfsTo W.length d l (i + 1)).length = k + (dfsTo W.length d l i).length + (dfs W.length d (l ++ [(i : Int)])).length := by rw [hsu, List.length_append]; omega
    have hle := dfsTo_le (n := W.length) (d := d) (l := l) (show i + 1 ≤ W.length by omega)
    rw [dfsTo_all] at hle
    have hl1 : (l ++ [(i : Int)]).length = l.length + 1 := by simp
    have hl4 : l.length + 1 + d ≤ 4 := by omega
    rw [hl1] at hgo
    have hde : decG (.sl (ints l ++ [.int .i64 i]) (l.length + 1) false) = some (l ++ [(i : Int)]) := by
     have e := unIs (l ++ [(i : Int)])
     rw [ints_snoc] at e
     unfold decG
     simp only [e, hl1]
     rw [if_pos ⟨trivial, by omega⟩]
    obtain ⟨⟨b', c'⟩, hov⟩ : ∃ o, outY Y (k + (dfsTo W.length d l i).length) (dfs W.length d (l ++ [(i : Int)])).length = o := ⟨_, rfl⟩
    by_cases h0 : l.length = 0
    ·have hn : l = [] := List.eq_nil_of_length_eq_zero h0
     subst hn
     simp only [List.nil_append, List.length_nil, Nat.zero_add, show ints [] = [] from rfl] at hde hpre hgo hl1 hl4 hov hsl
     simp (decide := true) (maxSteps := 4000000) only [go_sem, Nat.reduceAdd, Nat.reduceSub, Nat.reduceMul, Nat.reduceDiv, Nat.reduceMod, Nat.reduceLT, Nat.reduceLeDiff, Nat.reduceEqDiff, Nat.reduceBEq, Nat.reduceBNe, Nat.reduceGT, Int.reduceAdd, Int.reduceSub, Int.reduceMul, Int.reduceNeg, Int.reduceLT, Int.reduceLE, Int.reduceEq, Int.reduceNe, Int.reduceBEq, Int.reduceBNe, Int.reduceToNat, Int.reduceGT, Int.reduceGE, ↓reduceIte, decide_true, decide_false, eq_self, Nat.mul_one, Nat.zero_mul, Nat.one_mul, Int.le_refl, Nat.le_refl, Int.cast_ofNat_Int, hlt, gT_nil, hm1, hde, freezeW, freezeO, closedG, seenF, wr, upo, thawP, thawC, lonT, hgo, hl4, hpre, hov]
     cases b' with
     | true =>
      have hns' : ¬ (Y.stop = true ∧ Y.m ≤ k + (dfsTo W.length d ([] : List Int) (i + 1)).length) := fun e => by
       rw [hsl] at e
       unfold outY at hov
       rw [if_pos e] at hov
       cases hov
      have hc' : c' = k + (dfsTo W.length d ([] : List Int) (i + 1)).length := by
       rw [hsl] at hns' ⊢
       unfold outY at hov
       rw [if_neg hns'] at hov
       cases hov; rfl
      subst hc'
      simp (decide := true) (maxSteps := 4000000) only [go_sem, Nat.reduceAdd, Nat.reduceSub, Nat.reduceMul, Nat.reduceDiv, Nat.reduceMod, Nat.reduceLT, Nat.reduceLeDiff, Nat.reduceEqDiff, Nat.reduceBEq, Nat.reduceBNe, Nat.reduceGT, Int.reduceAdd, Int.reduceSub, Int.reduceMul, Int.reduceNeg, Int.reduceLT, Int.reduceLE, Int.reduceEq, Int.reduceNe, Int.reduceBEq, Int.reduceBNe, Int.reduceToNat, Int.reduceGT, Int.reduceGE, ↓reduceIte, decide_true, decide_false, eq_self, Nat.mul_one, Nat.zero_mul, Nat.one_mul, Int.le_refl, Nat.le_refl, Int.cast_ofNat_Int]
      refine hI1 _ ⟨i + 1, by omega, hns'⟩ (by simp only; omega) ?_
      simp (decide := true) (maxSteps := 4000000) only [go_sem, Nat.reduceAdd, Nat.reduceSub, Nat.reduceMul, Nat.reduceDiv, Nat.reduceMod, Nat.reduceLT, Nat.reduceLeDiff, Nat.reduceEqDiff, Nat.reduceBEq, Nat.reduceBNe, Nat.reduceGT, Int.reduceAdd, Int.reduceSub, Int.reduceMul, Int.reduceNeg, Int.reduceLT, Int.reduceLE, Int.reduceEq, Int.reduceNe, Int.reduceBEq, Int.reduceBNe, Int.reduceToNat, Int.reduceGT, Int.reduceGE, ↓reduceIte, decide_true, decide_false, eq_self, Nat.mul_one, Nat.zero_mul, Nat.one_mul, Int.le_refl, Nat.le_refl, Int.cast_ofNat_Int, hi1, gT_nil]
      first | done | trace_state
     | false =>
      have hst : Y.stop = true ∧ Y.m ≤ k + (dfsTo W.length d ([] : List Int) i).length + (dfs W.length d ([(i : Int)])).length := by
       unfold outY at hov
       split at hov
       ·assumption
       ·cases hov
      have hc' : c' = Y.m := by unfold outY at hov; rw [if_pos hst] at hov; cases hov; rfl
      subst hc'
      have ho : outY Y k (dfs W.length (d + 1) ([] : List Int)).length = (false, Y.m) := by unfold outY; rw [if_pos ⟨hst.1, by omega⟩]
      rw [ho] at hout
      cases hout
      simp (decide := true) (maxSteps := 4000000) only [go_sem, Nat.reduceAdd, Nat.reduceSub, Nat.reduceMul, Nat.reduceDiv, Nat.reduceMod, Nat.reduceLT, Nat.reduceLeDiff, Nat.reduceEqDiff, Nat.reduceBEq, Nat.reduceBNe, Nat.reduceGT, Int.reduceAdd, Int.reduceSub, Int.reduceMul, Int.reduceNeg, Int.reduceLT, Int.reduceLE, Int.reduceEq, Int.reduceNe, Int.reduceBEq, Int.reduceBNe, Int.reduceToNat, Int.reduceGT, Int.reduceGE, ↓reduceIte, decide_true, decide_false, eq_self, Nat.mul_one, Nat.zero_mul, Nat.one_mul, Int.le_refl, Nat.le_refl, Int.cast_ofNat_Int]
      refine hQ1 _ _ ?_
      simp (decide := true) (maxSteps := 4000000) only [go_sem, Nat.reduceAdd, Nat.reduceSub, Nat.reduceMul, Nat.reduceDiv, Nat.reduceMod, Nat.reduceLT, Nat.reduceLeDiff, Nat.reduceEqDiff, Nat.reduceBEq, Nat.reduceBNe, Nat.reduceGT, Int.reduceAdd, Int.reduceSub, Int.reduceMul, Int.reduceNeg, Int.reduceLT, Int.reduceLE, Int.reduceEq, Int.reduceNe, Int.reduceBEq, Int.reduceBNe, Int.reduceToNat, Int.reduceGT, Int.reduceGE, ↓reduceIte, decide_true, decide_false, eq_self, Nat.mul_one, Nat.zero_mul, Nat.one_mul, Int.le_refl, Nat.le_refl, Int.cast_ofNat_Int]
      first | done | exact ⟨_, rfl, rfl⟩ | trace_state
    ·have hg := gT_ne h0
     have h11 : 1 ≤ l.length := by omega
     have hlm : (List.map PV.t (ints l)).length = l.length := by rw [List.length_map, hil]
     have htk : List.take (l.length + 1) (ints l ++ [.int .i64 i]) = ints l ++ [.int .i64 i] := List.take_of_length_le (by simp [hil])
     have hll : (ints l ++ [TV.int .i64 i]).length = l.length + 1 := by simp [hil]
     simp (decide := true) (maxSteps := 4000000) only [go_sem, Nat.reduceAdd, Nat.reduceSub, Nat.reduceMul, Nat.reduceDiv, Nat.reduceMod, Nat.reduceLT, Nat.reduceLeDiff, Nat.reduceEqDiff, Nat.reduceBEq, Nat.reduceBNe, Nat.reduceGT, Int.reduceAdd, Int.reduceSub, Int.reduceMul, Int.reduceNeg, Int.reduceLT, Int.reduceLE, Int.reduceEq, Int.reduceNe, Int.reduceBEq, Int.reduceBNe, Int.reduceToNat, Int.reduceGT, Int.reduceGE, ↓reduceIte, decide_true, decide_false, eq_self, Nat.mul_one, Nat.zero_mul, Nat.one_mul, Int.le_refl, Nat.le_refl, Int.cast_ofNat_Int, hlt, hg, hui, hl6, hl3, hl8, hil, hc, hm1, hde, h11, hlm, fz1, fz2, fz3, freezeW, freezeO, closedG, seenF, wr, upo, thawP, thawC, htk, hll, Nat.mul_one, List.drop_zero, lonT, hl1, hgo, hl4, hpre, hov]
     cases b' with
     | true =>
      have hns' : ¬ (Y.stop = true ∧ Y.m ≤ k + (dfsTo W.length d l (i + 1)).length) := fun e => by
       rw [hsl] at e
       unfold outY at hov
       rw [if_pos e] at hov
       cases hov
      have hc' : c' = k + (dfsTo W.length d l (i + 1)).length := by
       rw [hsl] at hns' ⊢
       unfold outY at hov
       rw [if_neg hns'] at hov
       cases hov; rfl
      subst hc'
      simp (decide := true) (maxSteps := 4000000) only [go_sem, Nat.reduceAdd, Nat.reduceSub, Nat.reduceMul, Nat.reduceDiv, Nat.reduceMod, Nat.reduceLT, Nat.reduceLeDiff, Nat.reduceEqDiff, Nat.reduceBEq, Nat.reduceBNe, Nat.reduceGT, Int.reduceAdd, Int.reduceSub, Int.reduceMul, Int.reduceNeg, Int.reduceLT, Int.reduceLE, Int.reduceEq, Int.reduceNe, Int.reduceBEq, Int.reduceBNe, Int.reduceToNat, Int.reduceGT, Int.reduceGE, ↓reduceIte, decide_true, decide_false, eq_self, Nat.mul_one, Nat.zero_mul, Nat.one_mul, Int.le_refl, Nat.le_refl, Int.cast_ofNat_Int]
      refine hI1 _ ⟨i + 1, by omega, hns'⟩ (by simp only; omega) ?_
      simp (decide := true) (maxSteps := 4000000) only [go_sem, Nat.reduceAdd, Nat.reduceSub, Nat.reduceMul, Nat.reduceDiv, Nat.reduceMod, Nat.reduceLT, Nat.reduceLeDiff, Nat.reduceEqDiff, Nat.reduceBEq, Nat.reduceBNe, Nat.reduceGT, Int.reduceAdd, Int.reduceSub, Int.reduceMul, Int.reduceNeg, Int.reduceLT, Int.reduceLE, Int.reduceEq, Int.reduceNe, Int.reduceBEq, Int.reduceBNe, Int.reduceToNat, Int.reduceGT, Int.reduceGE, ↓reduceIte, decide_true, decide_false, eq_self, Nat.mul_one, Nat.zero_mul, Nat.one_mul, Int.le_refl, Nat.le_refl, Int.cast_ofNat_Int, hi1, hg]
      first | done | trace_state
     | false =>
      have hst : Y.stop = true ∧ Y.m ≤ k + (dfsTo W.length d l i).length + (dfs W.length d (l ++ [(i : Int)])).length := by
       unfold outY at hov
       split at hov
       ·assumption
       ·cases hov
      have hc' : c' = Y.m := by unfold outY at hov; rw [if_pos hst] at hov; cases hov; rfl
      subst hc'
      have ho : outY Y k (dfs W.length (d + 1) l).length = (false, Y.m) := by unfold outY; rw [if_pos ⟨hst.1, by omega⟩]
      rw [ho] at hout
      cases hout
      simp (decide := true) (maxSteps := 4000000) only [go_sem, Nat.reduceAdd, Nat.reduceSub, Nat.reduceMul, Nat.reduceDiv, Nat.reduceMod, Nat.reduceLT, Nat.reduceLeDiff, Nat.reduceEqDiff, Nat.reduceBEq, Nat.reduceBNe, Nat.reduceGT, Int.reduceAdd, Int.reduceSub, Int.reduceMul, Int.reduceNeg, Int.reduceLT, Int.reduceLE, Int.reduceEq, Int.reduceNe, Int.reduceBEq, Int.reduceBNe, Int.reduceToNat, Int.reduceGT, Int.reduceGE, ↓reduceIte, decide_true, decide_false, eq_self, Nat.mul_one, Nat.zero_mul, Nat.one_mul, Int.le_refl, Nat.le_refl, Int.cast_ofNat_Int]
      refine hQ1 _ _ ?_
      simp (decide := true) (maxSteps := 4000000) only [go_sem, Nat.reduceAdd, Nat.reduceSub, Nat.reduceMul, Nat.reduceDiv, Nat.reduceMod, Nat.reduceLT, Nat.reduceLeDiff, Nat.reduceEqDiff, Nat.reduceBEq, Nat.reduceBNe, Nat.reduceGT, Int.reduceAdd, Int.reduceSub, Int.reduceMul, Int.reduceNeg, Int.reduceLT, Int.reduceLE, Int.reduceEq, Int.reduceNe, Int.reduceBEq, Int.reduceBNe, Int.reduceToNat, Int.reduceGT, Int.reduceGE, ↓reduceIte, decide_true, decide_false, eq_self, Nat.mul_one, Nat.zero_mul, Nat.one_mul, Int.le_refl, Nat.le_refl, Int.cast_ofNat_Int]
      first | done | exact ⟨_, rfl, rfl⟩ | trace_state
  ·have hin : i = W.length := by omega
   subst hin
   rw [dfsTo_all] at hns
   have ho : outY Y k (dfs W.length (d + 1) l).length = (true, k + (dfs W.length (d + 1) l).length) := by unfold outY; rw [if_neg hns]
   rw [ho] at hout
   cases hout
   simp (decide := true) (maxSteps := 4000000) only [go_sem, Nat.reduceAdd, Nat.reduceSub, Nat.reduceMul, Nat.reduceDiv, Nat.reduceMod, Nat.reduceLT, Nat.reduceLeDiff, Nat.reduceEqDiff, Nat.reduceBEq, Nat.reduceBNe, Nat.reduceGT, Int.reduceAdd, Int.reduceSub, Int.reduceMul, Int.reduceNeg, Int.reduceLT, Int.reduceLE, Int.reduceEq, Int.reduceNe, Int.reduceBEq, Int.reduceBNe, Int.reduceToNat, Int.reduceGT, Int.reduceGE, ↓reduceIte, decide_true, decide_false, eq_self, Nat.mul_one, Nat.zero_mul, Nat.one_mul, Int.le_refl, Nat.le_refl, Int.cast_ofNat_Int, hlt]
   refine hQ1 _ _ ?_
   simp (decide := true) (maxSteps := 4000000) only [go_sem, Nat.reduceAdd, Nat.reduceSub, Nat.reduceMul, Nat.reduceDiv, Nat.reduceMod, Nat.reduceLT, Nat.reduceLeDiff, Nat.reduceEqDiff, Nat.reduceBEq, Nat.reduceBNe, Nat.reduceGT, Int.reduceAdd, Int.reduceSub, Int.reduceMul, Int.reduceNeg, Int.reduceLT, Int.reduceLE, Int.reduceEq, Int.reduceNe, Int.reduceBEq, Int.reduceBNe, Int.reduceToNat, Int.reduceGT, Int.reduceGE, ↓reduceIte, decide_true, decide_false, eq_self, Nat.mul_one, Nat.zero_mul, Nat.one_mul, Int.le_refl, Nat.le_refl, Int.cast_ofNat_Int, dfsTo_all]
   first | done | exact ⟨_, rfl, rfl⟩ | trace_state
end Go.Proofs.YtlonlnfenbadbaaDoor

/- Part TGd. -/
namespace Go.Proofs.YtlonlnfenbadbaaDoor
open Go.RowKit Go.Pm Go.Oc Go.Oh Go.Ow
set_option maxRecDepth 100000
set_option linter.unusedVariables false
set_option maxHeartbeats 8000000

theorem lon_all {W : List Int} {f : Bool} {num den : Int} (hW : W.length ≤ 10) : ∀ d, d ≤ 4 → LonC W f num den d
 | 0, _ => lon_zero W f num den
 | d + 1, h => lon_succ hW (by omega) (lon_all hW d (by omega))
noncomputable def gLon2 (W : List Int) (f : Bool) (num den : Int) : YS → List PV → List PO → Option (PV × List PO) := fun Y ps hl => firstO (gLon W f num den 2 Y ps hl) (gLon W f num den 4 Y ps hl)
theorem gLon2_ok {W : List Int} {f : Bool} {num den : Int} (hW : W.length ≤ 10) : ∀ Y xs hl r hl', gLon2 W f num den Y xs hl = some (r, hl') → YCalls Tryd.prog Y 114 xs (getL hl) r (getL hl') := by
 intro Y xs hl r hl' e
 unfold gLon2 firstO at e
 split at e
 ·rename_i x hx; cases e; exact gLon_ok (lon_all hW 2 (by omega)) Y xs hl r hl' hx
 ·exact gLon_ok (lon_all hW 4 (by omega)) Y xs hl r hl' e
noncomputable def spGr (W : List Int) (f : Bool) (num den : Int) : Pm.Spec := noSpec.oneY 114 (gLon2 W f num den)
theorem spGr_ok {W : List Int} {f : Bool} {num den : Int} (hW : W.length ≤ 10) : SpecOk Tryd.prog (spGr W f num den) := Spec.oneY_ok (gLon2_ok hW) noSpec_ok
@[go_sem] theorem gLon2_eq (W : List Int) (f : Bool) (num den : Int) (Y : YS) (ps : List PV) (hl : List PO) : gLon2 W f num den Y ps hl = firstO (gLon W f num den 2 Y ps hl) (gLon W f num den 4 Y ps hl) := rfl
theorem gearsI_c (W : List Int) (f : Bool) (num den : Int) (hW : W.length ≤ 10) : Iter Tryd.prog 66 [.agg [.sl (ints W) W.length f, .int .i64 num, .int .i64 den]] [] ((gearsL W.length).map fun g => [gT g]) := by
 refine iter_by Tryd.mixes (spGr_ok (f := f) (num := num) (den := den) hW) (fn := Tryd.f66) Tryd.func66 rfl (by kernel_rfl) rfl (by show 2 ≤ _; decide) ?_
 intro y m stop h1 h2 h3
 obtain ⟨Y, hY⟩ : ∃ Y : YS, Y = ⟨y, (gearsL W.length).map fun g => [gT g], m, stop⟩ := ⟨_, rfl⟩
 have yl : Y.l = y := by rw [hY]
 have ym : Y.m = m := by rw [hY]
 have ys : Y.stop = stop := by rw [hY]
 have yx : Y.xs = (gearsL W.length).map fun g => [gT g] := by rw [hY]
 have hlen : (gearsL W.length).length = (dfs W.length 2 []).length + (dfs W.length 4 []).length := by unfold gearsL; rw [List.length_append]
 rw [List.length_map, hlen] at h1 h2
 have hat : ∀ (i : Nat) (g : List Int), (gearsL W.length)[i]? = some g → Y.xs[i]? = some [gT g] := fun i g hg => by rw [yx, List.getElem?_map, hg]; rfl
 have p1 : preY Y 0 (dfs W.length 2 []) := ⟨fun i g hg _ => by
   rw [Nat.zero_add]
   exact hat i g (by unfold gearsL; rw [List.getElem?_append_left (List.getElem?_eq_some_iff.1 hg).1]; exact hg), fun e => by rw [ys] at e; rw [ym]; have := h2 e; omega, fun e => by rw [ys] at e; rw [ym]; exact h3 e⟩
 have p2 : ¬ (Y.stop = true ∧ Y.m ≤ 0 + (dfs W.length 2 []).length) → preY Y (0 + (dfs W.length 2 []).length) (dfs W.length 4 []) := fun hn => ⟨fun i g hg _ => by
   rw [Nat.zero_add]
   refine hat _ g ?_
   unfold gearsL
   rw [List.getElem?_append_right (by omega), show (dfs W.length 2 []).length + i - (dfs W.length 2 []).length = i by omega]; exact hg, fun e => by rw [ys] at e; rw [ym]; have := h2 e; omega, fun e => by
   have : ¬ Y.m ≤ 0 + (dfs W.length 2 []).length := fun hle => hn ⟨e, hle⟩
   omega⟩
 have g0 : gOk W.length 0 [] := ⟨rfl, List.nodup_nil, fun x hx => by cases hx⟩
 have d0 : decG .nilSl = some [] := rfl
 rw [← hY]
 by_cases hs : Y.stop = true ∧ Y.m ≤ 0 + (dfs W.length 2 []).length
 ·have o1 : outY Y 0 (dfs W.length 2 []).length = (false, Y.m) := by unfold outY; rw [if_pos hs]
  rw [← yl]
  simp (decide := true) (maxSteps := 4000000) only [go_sem, Nat.reduceAdd, Nat.reduceSub, Nat.reduceMul, Nat.reduceDiv, Nat.reduceMod, Nat.reduceLT, Nat.reduceLeDiff, Nat.reduceEqDiff, Nat.reduceBEq, Nat.reduceBNe, Nat.reduceGT, Int.reduceAdd, Int.reduceSub, Int.reduceMul, Int.reduceNeg, Int.reduceLT, Int.reduceLE, Int.reduceEq, Int.reduceNe, Int.reduceBEq, Int.reduceBNe, Int.reduceToNat, Int.reduceGT, Int.reduceGE, ↓reduceIte, decide_true, decide_false, eq_self, Nat.mul_one, Nat.zero_mul, Nat.one_mul, Int.le_refl, Nat.le_refl, Int.cast_ofNat_Int, Tryd.f66, spGr, d0, lonT, g0, p1, o1, bodyN, ym]
  first | done | trace_state
 ·have o1 : outY Y 0 (dfs W.length 2 []).length = (true, 0 + (dfs W.length 2 []).length) := by unfold outY; rw [if_neg hs]
  have p2' := p2 hs
  have o2 : (outY Y (0 + (dfs W.length 2 []).length) (dfs W.length 4 []).length).2 = m := by
   unfold outY
   split
   ·exact ym
   ·rename_i hn
    rw [ys, ym] at hn
    cases stop with
    | false => have := h2 rfl; simp only; omega
    | true => simp only [true_and] at hn; simp only; omega
  obtain ⟨⟨ob, oc⟩, hov⟩ : ∃ o, outY Y (0 + (dfs W.length 2 []).length) (dfs W.length 4 []).length = o := ⟨_, rfl⟩
  rw [hov] at o2
  simp only at o2
  subst o2
  rw [Nat.zero_add] at o1 p2' hov
  rw [← yl]
  simp (decide := true) (maxSteps := 4000000) only [go_sem, Nat.reduceAdd, Nat.reduceSub, Nat.reduceMul, Nat.reduceDiv, Nat.reduceMod, Nat.reduceLT, Nat.reduceLeDiff, Nat.reduceEqDiff, Nat.reduceBEq, Nat.reduceBNe, Nat.reduceGT, Int.reduceAdd, Int.reduceSub, Int.reduceMul, Int.reduceNeg, Int.reduceLT, Int.reduceLE, Int.reduceEq, Int.reduceNe, Int.reduceBEq, Int.reduceBNe, Int.reduceToNat, Int.reduceGT, Int.reduceGE, ↓reduceIte, decide_true, decide_false, eq_self, Nat.mul_one, Nat.zero_mul, Nat.one_mul, Int.le_refl, Nat.le_refl, Int.cast_ofNat_Int, Tryd.f66, spGr, d0, lonT, g0, p1, o1, p2', hov, bodyN]
  first | done | trace_state
end Go.Proofs.YtlonlnfenbadbaaDoor

/- Part TGe. -/
namespace Go.Ow
open Go Go.RowKit Go.Pm Go.Oc Go.Oh
def whOk (W : List Int) : Prop := (2 ≤ W.length ∧ W.length ≤ 10) ∧ ∀ x ∈ W, 10 ≤ x ∧ x ≤ 200
def at_ (W : List Int) (a : Int) : Int := Ix.nthI W a
theorem at_get {W : List Int} {a : Int} (h1 : 0 ≤ a) (h2 : a < W.length) : W[a.toNat]? = some (at_ W a) := by
 have hx : W[a.toNat]? = some (W[a.toNat]'(by omega)) := List.getElem?_eq_getElem (by omega)
 have h := Ix.nthI_at hx
 rw [Int.toNat_of_nonneg h1] at h
 unfold at_
 rw [h]; exact hx
theorem at_drop {W : List Int} {a : Int} (h1 : 0 ≤ a) (h2 : a < W.length) : (ints W).drop a.toNat = .int .i64 (at_ W a) :: ints (W.drop (a.toNat + 1)) := by
 have hx := at_get h1 h2
 have := ints_at hx
 rwa [Nat.mul_one] at this
theorem at_b {W : List Int} (h : whOk W) {a : Int} (h1 : 0 ≤ a) (h2 : a < W.length) : 10 ≤ at_ W a ∧ at_ W a ≤ 200 := h.2 _ (List.mem_of_getElem? (at_get h1 h2))
theorem mul_b {x y : Int} {B : Int} (h1 : 1 ≤ x ∧ x ≤ B) (h2 : 10 ≤ y ∧ y ≤ 200) : 1 ≤ x * y ∧ x * y ≤ B * 200 := by
 have a := Int.mul_le_mul h1.2 h2.2 (by omega) (by omega)
 have b := Int.mul_le_mul h1.1 (show 1 ≤ y by omega) (by omega) (by omega)
 omega
end Go.Ow
namespace Go.Proofs.YtlonlnfenbadbaaDoor
open Go.RowKit Go.Pm Go.Oc Go.Oh Go.Ow
set_option maxRecDepth 100000
set_option linter.unusedVariables false
set_option maxHeartbeats 8000000

def latT (W : List Int) (f : Bool) (num den : Int) : TV := .agg [.sl (ints W) W.length f, .int .i64 num, .int .i64 den]
theorem sCuts2_c (W : List Int) (f fg : Bool) (num den : Int) (hW : whOk W) (hn : 1 ≤ num ∧ num ≤ 1000) (hdn : 1 ≤ den ∧ den ≤ 1000) (a b : Int) (ha : 0 ≤ a ∧ a < W.length) (hb : 0 ≤ b ∧ b < W.length) : PCalls Tryd.prog 67 [latT W f num den, .sl [.int .i64 a, .int .i64 b] 2 fg] (.agg [.int .i64 (num * at_ W a), .int .i64 (den * at_ W b)]) := by
 have da := at_drop ha.1 ha.2
 have ba := at_b hW ha.1 ha.2
 have db := at_drop hb.1 hb.2
 have bb := at_b hW hb.1 hb.2
 have m1 := mul_b hn ba
 have m2 := mul_b hdn bb
 have w1 : IntKind.i64.wrap (num * at_ W a) = num * at_ W a := wrap_in (by omega) (by omega)
 have w2 : IntKind.i64.wrap (den * at_ W b) = den * at_ W b := wrap_in (by omega) (by omega)
 refine pcalls_by Tryd.mixes noSpec_ok (fn := Tryd.f67) Tryd.func67 rfl (by kernel_rfl) (by show 2 ≤ _; decide) ?_
 simp (decide := true) (maxSteps := 4000000) only [go_sem, Nat.reduceAdd, Nat.reduceSub, Nat.reduceMul, Nat.reduceDiv, Nat.reduceMod, Nat.reduceLT, Nat.reduceLeDiff, Nat.reduceEqDiff, Nat.reduceBEq, Nat.reduceBNe, Nat.reduceGT, Int.reduceAdd, Int.reduceSub, Int.reduceMul, Int.reduceNeg, Int.reduceLT, Int.reduceLE, Int.reduceEq, Int.reduceNe, Int.reduceBEq, Int.reduceBNe, Int.reduceToNat, Int.reduceGT, Int.reduceGE, ↓reduceIte, decide_true, decide_false, eq_self, Nat.mul_one, Nat.zero_mul, Nat.one_mul, Int.le_refl, Nat.le_refl, Int.cast_ofNat_Int, Tryd.f67, latT]
 refine pwpC_loopU (A := { j : Nat // j ≤ 1 }) [1, 2, 4, 5] (fun j => [(6, .t (.int .i64 ((2 * j.1 : Nat) : Int)))]) (fun j => [(2, .box [.t (.int .i64 (match j.1 with | 0 => num | _ => num * at_ W a)), .t (.int .i64 (match j.1 with | 0 => den | _ => den * at_ W b))])]) (fun j => 1 - j.1) ⟨0, by omega⟩ (by decide) (fun _ => by rfl) ?_ fun Q1 hQ1 ⟨j, hj⟩ I1 hI1 => ?_
 ·simp (decide := true) (maxSteps := 4000000) only [go_sem, Nat.reduceAdd, Nat.reduceSub, Nat.reduceMul, Nat.reduceDiv, Nat.reduceMod, Nat.reduceLT, Nat.reduceLeDiff, Nat.reduceEqDiff, Nat.reduceBEq, Nat.reduceBNe, Nat.reduceGT, Int.reduceAdd, Int.reduceSub, Int.reduceMul, Int.reduceNeg, Int.reduceLT, Int.reduceLE, Int.reduceEq, Int.reduceNe, Int.reduceBEq, Int.reduceBNe, Int.reduceToNat, Int.reduceGT, Int.reduceGE, ↓reduceIte, decide_true, decide_false, eq_self, Nat.mul_one, Nat.zero_mul, Nat.one_mul, Int.le_refl, Nat.le_refl, Int.cast_ofNat_Int, Nat.mul_zero]
  first | done | trace_state
 ·rcases (by omega : j = 0 ∨ j = 1) with rfl | rfl
  ·simp (decide := true) (maxSteps := 4000000) only [go_sem, Nat.reduceAdd, Nat.reduceSub, Nat.reduceMul, Nat.reduceDiv, Nat.reduceMod, Nat.reduceLT, Nat.reduceLeDiff, Nat.reduceEqDiff, Nat.reduceBEq, Nat.reduceBNe, Nat.reduceGT, Int.reduceAdd, Int.reduceSub, Int.reduceMul, Int.reduceNeg, Int.reduceLT, Int.reduceLE, Int.reduceEq, Int.reduceNe, Int.reduceBEq, Int.reduceBNe, Int.reduceToNat, Int.reduceGT, Int.reduceGE, ↓reduceIte, decide_true, decide_false, eq_self, Nat.mul_one, Nat.zero_mul, Nat.one_mul, Int.le_refl, Nat.le_refl, Int.cast_ofNat_Int, Nat.mul_zero, show IntKind.i64.wrap 1 = 1 from rfl, show IntKind.i64.wrap 3 = 3 from rfl, ha, hb, da, db, w1, w2, Nat.mul_one]
   refine hI1 _ ⟨1, by omega⟩ (by simp only; omega) ?_
   simp (decide := true) (maxSteps := 4000000) only [go_sem, Nat.reduceAdd, Nat.reduceSub, Nat.reduceMul, Nat.reduceDiv, Nat.reduceMod, Nat.reduceLT, Nat.reduceLeDiff, Nat.reduceEqDiff, Nat.reduceBEq, Nat.reduceBNe, Nat.reduceGT, Int.reduceAdd, Int.reduceSub, Int.reduceMul, Int.reduceNeg, Int.reduceLT, Int.reduceLE, Int.reduceEq, Int.reduceNe, Int.reduceBEq, Int.reduceBNe, Int.reduceToNat, Int.reduceGT, Int.reduceGE, ↓reduceIte, decide_true, decide_false, eq_self, Nat.mul_one, Nat.zero_mul, Nat.one_mul, Int.le_refl, Nat.le_refl, Int.cast_ofNat_Int, show IntKind.i64.wrap 2 = 2 from rfl]
   first | done | trace_state
  ·simp (decide := true) (maxSteps := 4000000) only [go_sem, Nat.reduceAdd, Nat.reduceSub, Nat.reduceMul, Nat.reduceDiv, Nat.reduceMod, Nat.reduceLT, Nat.reduceLeDiff, Nat.reduceEqDiff, Nat.reduceBEq, Nat.reduceBNe, Nat.reduceGT, Int.reduceAdd, Int.reduceSub, Int.reduceMul, Int.reduceNeg, Int.reduceLT, Int.reduceLE, Int.reduceEq, Int.reduceNe, Int.reduceBEq, Int.reduceBNe, Int.reduceToNat, Int.reduceGT, Int.reduceGE, ↓reduceIte, decide_true, decide_false, eq_self, Nat.mul_one, Nat.zero_mul, Nat.one_mul, Int.le_refl, Nat.le_refl, Int.cast_ofNat_Int]
   refine hQ1 _ _ ?_
   simp (decide := true) (maxSteps := 4000000) only [go_sem, Nat.reduceAdd, Nat.reduceSub, Nat.reduceMul, Nat.reduceDiv, Nat.reduceMod, Nat.reduceLT, Nat.reduceLeDiff, Nat.reduceEqDiff, Nat.reduceBEq, Nat.reduceBNe, Nat.reduceGT, Int.reduceAdd, Int.reduceSub, Int.reduceMul, Int.reduceNeg, Int.reduceLT, Int.reduceLE, Int.reduceEq, Int.reduceNe, Int.reduceBEq, Int.reduceBNe, Int.reduceToNat, Int.reduceGT, Int.reduceGE, ↓reduceIte, decide_true, decide_false, eq_self, Nat.mul_one, Nat.zero_mul, Nat.one_mul, Int.le_refl, Nat.le_refl, Int.cast_ofNat_Int]
   first | done | trace_state
theorem sCuts4_c (W : List Int) (f fg : Bool) (num den : Int) (hW : whOk W) (hn : 1 ≤ num ∧ num ≤ 1000) (hdn : 1 ≤ den ∧ den ≤ 1000) (a b c d : Int) (ha : 0 ≤ a ∧ a < W.length) (hb : 0 ≤ b ∧ b < W.length) (hc : 0 ≤ c ∧ c < W.length) (hd : 0 ≤ d ∧ d < W.length) : PCalls Tryd.prog 67 [latT W f num den, .sl [.int .i64 a, .int .i64 b, .int .i64 c, .int .i64 d] 4 fg] (.agg [.int .i64 (num * at_ W a * at_ W c), .int .i64 (den * at_ W b * at_ W d)]) := by
 have da := at_drop ha.1 ha.2
 have ba := at_b hW ha.1 ha.2
 have db := at_drop hb.1 hb.2
 have bb := at_b hW hb.1 hb.2
 have dc := at_drop hc.1 hc.2
 have bc := at_b hW hc.1 hc.2
 have dd := at_drop hd.1 hd.2
 have bd := at_b hW hd.1 hd.2
 have m1 := mul_b hn ba
 have m2 := mul_b hdn bb
 have w1 : IntKind.i64.wrap (num * at_ W a) = num * at_ W a := wrap_in (by omega) (by omega)
 have w2 : IntKind.i64.wrap (den * at_ W b) = den * at_ W b := wrap_in (by omega) (by omega)
 have m3 := mul_b m1 bc
 have m4 := mul_b m2 bd
 have w3 : IntKind.i64.wrap (num * at_ W a * at_ W c) = num * at_ W a * at_ W c := wrap_in (by omega) (by omega)
 have w4 : IntKind.i64.wrap (den * at_ W b * at_ W d) = den * at_ W b * at_ W d := wrap_in (by omega) (by omega)
 refine pcalls_by Tryd.mixes noSpec_ok (fn := Tryd.f67) Tryd.func67 rfl (by kernel_rfl) (by show 2 ≤ _; decide) ?_
 simp (decide := true) (maxSteps := 4000000) only [go_sem, Nat.reduceAdd, Nat.reduceSub, Nat.reduceMul, Nat.reduceDiv, Nat.reduceMod, Nat.reduceLT, Nat.reduceLeDiff, Nat.reduceEqDiff, Nat.reduceBEq, Nat.reduceBNe, Nat.reduceGT, Int.reduceAdd, Int.reduceSub, Int.reduceMul, Int.reduceNeg, Int.reduceLT, Int.reduceLE, Int.reduceEq, Int.reduceNe, Int.reduceBEq, Int.reduceBNe, Int.reduceToNat, Int.reduceGT, Int.reduceGE, ↓reduceIte, decide_true, decide_false, eq_self, Nat.mul_one, Nat.zero_mul, Nat.one_mul, Int.le_refl, Nat.le_refl, Int.cast_ofNat_Int, Tryd.f67, latT]
 refine pwpC_loopU (A := { j : Nat // j ≤ 2 }) [1, 2, 4, 5] (fun j => [(6, .t (.int .i64 ((2 * j.1 : Nat) : Int)))]) (fun j => [(2, .box [.t (.int .i64 (match j.1 with | 0 => num | 1 => num * at_ W a | _ => num * at_ W a * at_ W c)), .t (.int .i64 (match j.1 with | 0 => den | 1 => den * at_ W b | _ => den * at_ W b * at_ W d))])]) (fun j => 2 - j.1) ⟨0, by omega⟩ (by decide) (fun _ => by rfl) ?_ fun Q1 hQ1 ⟨j, hj⟩ I1 hI1 => ?_
 ·simp (decide := true) (maxSteps := 4000000) only [go_sem, Nat.reduceAdd, Nat.reduceSub, Nat.reduceMul, Nat.reduceDiv, Nat.reduceMod, Nat.reduceLT, Nat.reduceLeDiff, Nat.reduceEqDiff, Nat.reduceBEq, Nat.reduceBNe, Nat.reduceGT, Int.reduceAdd, Int.reduceSub, Int.reduceMul, Int.reduceNeg, Int.reduceLT, Int.reduceLE, Int.reduceEq, Int.reduceNe, Int.reduceBEq, Int.reduceBNe, Int.reduceToNat, Int.reduceGT, Int.reduceGE, ↓reduceIte, decide_true, decide_false, eq_self, Nat.mul_one, Nat.zero_mul, Nat.one_mul, Int.le_refl, Nat.le_refl, Int.cast_ofNat_Int, Nat.mul_zero]
  first | done | trace_state
 ·rcases (by omega : j = 0 ∨ j = 1 ∨ j = 2) with rfl | rfl | rfl
  ·simp (decide := true) (maxSteps := 4000000) only [go_sem, Nat.reduceAdd, Nat.reduceSub, Nat.reduceMul, Nat.reduceDiv, Nat.reduceMod, Nat.reduceLT, Nat.reduceLeDiff, Nat.reduceEqDiff, Nat.reduceBEq, Nat.reduceBNe, Nat.reduceGT, Int.reduceAdd, Int.reduceSub, Int.reduceMul, Int.reduceNeg, Int.reduceLT, Int.reduceLE, Int.reduceEq, Int.reduceNe, Int.reduceBEq, Int.reduceBNe, Int.reduceToNat, Int.reduceGT, Int.reduceGE, ↓reduceIte, decide_true, decide_false, eq_self, Nat.mul_one, Nat.zero_mul, Nat.one_mul, Int.le_refl, Nat.le_refl, Int.cast_ofNat_Int, Nat.mul_zero, show IntKind.i64.wrap 1 = 1 from rfl, show IntKind.i64.wrap 3 = 3 from rfl, ha, hb, da, db, w1, w2, Nat.mul_one]
   refine hI1 _ ⟨1, by omega⟩ (by simp only; omega) ?_
   simp (decide := true) (maxSteps := 4000000) only [go_sem, Nat.reduceAdd, Nat.reduceSub, Nat.reduceMul, Nat.reduceDiv, Nat.reduceMod, Nat.reduceLT, Nat.reduceLeDiff, Nat.reduceEqDiff, Nat.reduceBEq, Nat.reduceBNe, Nat.reduceGT, Int.reduceAdd, Int.reduceSub, Int.reduceMul, Int.reduceNeg, Int.reduceLT, Int.reduceLE, Int.reduceEq, Int.reduceNe, Int.reduceBEq, Int.reduceBNe, Int.reduceToNat, Int.reduceGT, Int.reduceGE, ↓reduceIte, decide_true, decide_false, eq_self, Nat.mul_one, Nat.zero_mul, Nat.one_mul, Int.le_refl, Nat.le_refl, Int.cast_ofNat_Int, show IntKind.i64.wrap 2 = 2 from rfl]
   first | done | trace_state
  ·simp (decide := true) (maxSteps := 4000000) only [go_sem, Nat.reduceAdd, Nat.reduceSub, Nat.reduceMul, Nat.reduceDiv, Nat.reduceMod, Nat.reduceLT, Nat.reduceLeDiff, Nat.reduceEqDiff, Nat.reduceBEq, Nat.reduceBNe, Nat.reduceGT, Int.reduceAdd, Int.reduceSub, Int.reduceMul, Int.reduceNeg, Int.reduceLT, Int.reduceLE, Int.reduceEq, Int.reduceNe, Int.reduceBEq, Int.reduceBNe, Int.reduceToNat, Int.reduceGT, Int.reduceGE, ↓reduceIte, decide_true, decide_false, eq_self, Nat.mul_one, Nat.zero_mul, Nat.one_mul, Int.le_refl, Nat.le_refl, Int.cast_ofNat_Int, Nat.mul_zero, show IntKind.i64.wrap 1 = 1 from rfl, show IntKind.i64.wrap 3 = 3 from rfl, hc, hd, dc, dd, w3, w4, Nat.mul_one]
   refine hI1 _ ⟨2, by omega⟩ (by simp only; omega) ?_
   simp (decide := true) (maxSteps := 4000000) only [go_sem, Nat.reduceAdd, Nat.reduceSub, Nat.reduceMul, Nat.reduceDiv, Nat.reduceMod, Nat.reduceLT, Nat.reduceLeDiff, Nat.reduceEqDiff, Nat.reduceBEq, Nat.reduceBNe, Nat.reduceGT, Int.reduceAdd, Int.reduceSub, Int.reduceMul, Int.reduceNeg, Int.reduceLT, Int.reduceLE, Int.reduceEq, Int.reduceNe, Int.reduceBEq, Int.reduceBNe, Int.reduceToNat, Int.reduceGT, Int.reduceGE, ↓reduceIte, decide_true, decide_false, eq_self, Nat.mul_one, Nat.zero_mul, Nat.one_mul, Int.le_refl, Nat.le_refl, Int.cast_ofNat_Int, show IntKind.i64.wrap 4 = 4 from rfl]
   first | done | trace_state
  ·simp (decide := true) (maxSteps := 4000000) only [go_sem, Nat.reduceAdd, Nat.reduceSub, Nat.reduceMul, Nat.reduceDiv, Nat.reduceMod, Nat.reduceLT, Nat.reduceLeDiff, Nat.reduceEqDiff, Nat.reduceBEq, Nat.reduceBNe, Nat.reduceGT, Int.reduceAdd, Int.reduceSub, Int.reduceMul, Int.reduceNeg, Int.reduceLT, Int.reduceLE, Int.reduceEq, Int.reduceNe, Int.reduceBEq, Int.reduceBNe, Int.reduceToNat, Int.reduceGT, Int.reduceGE, ↓reduceIte, decide_true, decide_false, eq_self, Nat.mul_one, Nat.zero_mul, Nat.one_mul, Int.le_refl, Nat.le_refl, Int.cast_ofNat_Int]
   refine hQ1 _ _ ?_
   simp (decide := true) (maxSteps := 4000000) only [go_sem, Nat.reduceAdd, Nat.reduceSub, Nat.reduceMul, Nat.reduceDiv, Nat.reduceMod, Nat.reduceLT, Nat.reduceLeDiff, Nat.reduceEqDiff, Nat.reduceBEq, Nat.reduceBNe, Nat.reduceGT, Int.reduceAdd, Int.reduceSub, Int.reduceMul, Int.reduceNeg, Int.reduceLT, Int.reduceLE, Int.reduceEq, Int.reduceNe, Int.reduceBEq, Int.reduceBNe, Int.reduceToNat, Int.reduceGT, Int.reduceGE, ↓reduceIte, decide_true, decide_false, eq_self, Nat.mul_one, Nat.zero_mul, Nat.one_mul, Int.le_refl, Nat.le_refl, Int.cast_ofNat_Int]
   first | done | trace_state
theorem sIsPitch_c (a b : Int) : PCalls Tryd.prog 64 [.agg [.int .i64 a, .int .i64 b]] (.bool (inB a 1 1000 && inB b 1 1000)) := by
 refine pcalls_by Tryd.mixes spGl_ok (fn := Tryd.f64) Tryd.func64 rfl (by kernel_rfl) (by show 1 ≤ _; decide) ?_
 cases h1 : inB a 1 1000 <;> cases h2 : inB b 1 1000 <;> simp (decide := true) (maxSteps := 4000000) only [go_sem, Nat.reduceAdd, Nat.reduceSub, Nat.reduceMul, Nat.reduceDiv, Nat.reduceMod, Nat.reduceLT, Nat.reduceLeDiff, Nat.reduceEqDiff, Nat.reduceBEq, Nat.reduceBNe, Nat.reduceGT, Int.reduceAdd, Int.reduceSub, Int.reduceMul, Int.reduceNeg, Int.reduceLT, Int.reduceLE, Int.reduceEq, Int.reduceNe, Int.reduceBEq, Int.reduceBNe, Int.reduceToNat, Int.reduceGT, Int.reduceGE, ↓reduceIte, decide_true, decide_false, eq_self, Nat.mul_one, Nat.zero_mul, Nat.one_mul, Int.le_refl, Nat.le_refl, Int.cast_ofNat_Int, Tryd.f64, h1, h2]
def latOk (W : List Int) (num den : Int) : Bool := inB W.length 2 10 && inB num 1 1000 && inB den 1 1000 && W.all fun x => inB x 10 200
theorem sCheck_c (W : List Int) (f : Bool) (num den : Int) (hs : srt W) (hl : W.length ≤ 17592186044415) : PCalls Tryd.prog 63 [latT W f num den] (.int .i64 (if latOk W num den then 0 else 20)) := by
 have hS := sSorted_c f hs hl
 refine pcalls_by Tryd.mixes (Spec.one_ok (oneP_ok hS) spGl_ok) (fn := Tryd.f63) Tryd.func63 rfl (by kernel_rfl) (by show 1 ≤ _; decide) ?_
 unfold latOk
 by_cases hall : inB W.length 2 10 = true ∧ inB num 1 1000 = true ∧ inB den 1 1000 = true
 ·obtain ⟨h1, h2, h3⟩ := hall
  have hp : ∀ k, k < W.length → ∀ x, W[k]? = some x → (W.take (k + 1)).all (fun x => inB x 10 200) = ((W.take k).all (fun x => inB x 10 200) && inB x 10 200) := fun k hk x hx => by
   rw [List.take_add_one, hx, List.all_append]; simp
  rw [h1, h2, h3]
  simp (decide := true) (maxSteps := 4000000) only [go_sem, Nat.reduceAdd, Nat.reduceSub, Nat.reduceMul, Nat.reduceDiv, Nat.reduceMod, Nat.reduceLT, Nat.reduceLeDiff, Nat.reduceEqDiff, Nat.reduceBEq, Nat.reduceBNe, Nat.reduceGT, Int.reduceAdd, Int.reduceSub, Int.reduceMul, Int.reduceNeg, Int.reduceLT, Int.reduceLE, Int.reduceEq, Int.reduceNe, Int.reduceBEq, Int.reduceBNe, Int.reduceToNat, Int.reduceGT, Int.reduceGE, ↓reduceIte, decide_true, decide_false, eq_self, Nat.mul_one, Nat.zero_mul, Nat.one_mul, Int.le_refl, Nat.le_refl, Int.cast_ofNat_Int, Tryd.f63, latT, h1, h2, h3]
  refine pwpC_loopU (A := { k : Nat // k ≤ W.length }) [1, 26, 27] (fun k => [(28, .t (.int .i64 k.1)), (3, .t (.bool ((W.take k.1).all fun x => inB x 10 200)))]) (fun _ => []) (fun k => W.length - k.1) ⟨0, by omega⟩ (by decide) (fun _ => by rfl) ?_ fun Q1 hQ1 ⟨k, hk⟩ I1 hI1 => ?_
  ·simp (decide := true) (maxSteps := 4000000) only [go_sem, Nat.reduceAdd, Nat.reduceSub, Nat.reduceMul, Nat.reduceDiv, Nat.reduceMod, Nat.reduceLT, Nat.reduceLeDiff, Nat.reduceEqDiff, Nat.reduceBEq, Nat.reduceBNe, Nat.reduceGT, Int.reduceAdd, Int.reduceSub, Int.reduceMul, Int.reduceNeg, Int.reduceLT, Int.reduceLE, Int.reduceEq, Int.reduceNe, Int.reduceBEq, Int.reduceBNe, Int.reduceToNat, Int.reduceGT, Int.reduceGE, ↓reduceIte, decide_true, decide_false, eq_self, Nat.mul_one, Nat.zero_mul, Nat.one_mul, Int.le_refl, Nat.le_refl, Int.cast_ofNat_Int]
   first | done | trace_state
  ·by_cases hlt : (k : Int) < W.length
   ·obtain ⟨x, hx⟩ : ∃ x, W[k]? = some x := ⟨_, List.getElem?_eq_getElem (by omega)⟩
    have hd := ints_at hx
    rw [Nat.mul_one] at hd
    have hpk := hp k (by omega) x hx
    have hw : IntKind.i64.wrap ((k : Int) + 1) = ((k + 1 : Nat) : Int) := by rw [wrap_in (by omega) (by omega)]; omega
    cases ha : (W.take k).all (fun x => inB x 10 200)
    all_goals
     cases hb : inB x 10 200
     all_goals
      rw [ha, hb] at hpk
      simp (decide := true) (maxSteps := 4000000) only [go_sem, Nat.reduceAdd, Nat.reduceSub, Nat.reduceMul, Nat.reduceDiv, Nat.reduceMod, Nat.reduceLT, Nat.reduceLeDiff, Nat.reduceEqDiff, Nat.reduceBEq, Nat.reduceBNe, Nat.reduceGT, Int.reduceAdd, Int.reduceSub, Int.reduceMul, Int.reduceNeg, Int.reduceLT, Int.reduceLE, Int.reduceEq, Int.reduceNe, Int.reduceBEq, Int.reduceBNe, Int.reduceToNat, Int.reduceGT, Int.reduceGE, ↓reduceIte, decide_true, decide_false, eq_self, Nat.mul_one, Nat.zero_mul, Nat.one_mul, Int.le_refl, Nat.le_refl, Int.cast_ofNat_Int, hlt, hd, ha, hb]
      refine hI1 _ ⟨k + 1, by omega⟩ (by simp only; omega) ?_
      simp (decide := true) (maxSteps := 4000000) only [go_sem, Nat.reduceAdd, Nat.reduceSub, Nat.reduceMul, Nat.reduceDiv, Nat.reduceMod, Nat.reduceLT, Nat.reduceLeDiff, Nat.reduceEqDiff, Nat.reduceBEq, Nat.reduceBNe, Nat.reduceGT, Int.reduceAdd, Int.reduceSub, Int.reduceMul, Int.reduceNeg, Int.reduceLT, Int.reduceLE, Int.reduceEq, Int.reduceNe, Int.reduceBEq, Int.reduceBNe, Int.reduceToNat, Int.reduceGT, Int.reduceGE, ↓reduceIte, decide_true, decide_false, eq_self, Nat.mul_one, Nat.zero_mul, Nat.one_mul, Int.le_refl, Nat.le_refl, Int.cast_ofNat_Int, hw, hpk]
   ·have hkl : k = W.length := by omega
    subst hkl
    simp (decide := true) (maxSteps := 4000000) only [go_sem, Nat.reduceAdd, Nat.reduceSub, Nat.reduceMul, Nat.reduceDiv, Nat.reduceMod, Nat.reduceLT, Nat.reduceLeDiff, Nat.reduceEqDiff, Nat.reduceBEq, Nat.reduceBNe, Nat.reduceGT, Int.reduceAdd, Int.reduceSub, Int.reduceMul, Int.reduceNeg, Int.reduceLT, Int.reduceLE, Int.reduceEq, Int.reduceNe, Int.reduceBEq, Int.reduceBNe, Int.reduceToNat, Int.reduceGT, Int.reduceGE, ↓reduceIte, decide_true, decide_false, eq_self, Nat.mul_one, Nat.zero_mul, Nat.one_mul, Int.le_refl, Nat.le_refl, Int.cast_ofNat_Int, hlt, List.take_length]
    refine hQ1 _ _ ?_
    cases ha : W.all (fun x => inB x 10 200)
    all_goals simp (decide := true) (maxSteps := 4000000) only [go_sem, Nat.reduceAdd, Nat.reduceSub, Nat.reduceMul, Nat.reduceDiv, Nat.reduceMod, Nat.reduceLT, Nat.reduceLeDiff, Nat.reduceEqDiff, Nat.reduceBEq, Nat.reduceBNe, Nat.reduceGT, Int.reduceAdd, Int.reduceSub, Int.reduceMul, Int.reduceNeg, Int.reduceLT, Int.reduceLE, Int.reduceEq, Int.reduceNe, Int.reduceBEq, Int.reduceBNe, Int.reduceToNat, Int.reduceGT, Int.reduceGE, ↓reduceIte, decide_true, decide_false, eq_self, Nat.mul_one, Nat.zero_mul, Nat.one_mul, Int.le_refl, Nat.le_refl, Int.cast_ofNat_Int, ha]
 ·have hf : (inB W.length 2 10 && inB num 1 1000 && inB den 1 1000 && W.all fun x => inB x 10 200) = false := by
   cases h1 : inB W.length 2 10 <;> cases h2 : inB num 1 1000 <;> cases h3 : inB den 1 1000 <;> simp [h1, h2, h3] at hall ⊢
  rw [hf]
  cases h1 : inB W.length 2 10 <;> cases h2 : inB num 1 1000 <;> cases h3 : inB den 1 1000
  all_goals first | (exfalso; exact hall ⟨h1, h2, h3⟩) | skip
  all_goals
   simp (decide := true) (maxSteps := 4000000) only [go_sem, Nat.reduceAdd, Nat.reduceSub, Nat.reduceMul, Nat.reduceDiv, Nat.reduceMod, Nat.reduceLT, Nat.reduceLeDiff, Nat.reduceEqDiff, Nat.reduceBEq, Nat.reduceBNe, Nat.reduceGT, Int.reduceAdd, Int.reduceSub, Int.reduceMul, Int.reduceNeg, Int.reduceLT, Int.reduceLE, Int.reduceEq, Int.reduceNe, Int.reduceBEq, Int.reduceBNe, Int.reduceToNat, Int.reduceGT, Int.reduceGE, ↓reduceIte, decide_true, decide_false, eq_self, Nat.mul_one, Nat.zero_mul, Nat.one_mul, Int.le_refl, Nat.le_refl, Int.cast_ofNat_Int, Tryd.f63, latT, h1, h2, h3]
   refine pwpC_loopU (A := { k : Nat // k ≤ W.length }) [1, 26, 27] (fun k => [(28, .t (.int .i64 k.1)), (3, .t (.bool false))]) (fun _ => []) (fun k => W.length - k.1) ⟨0, by omega⟩ (by decide) (fun _ => by rfl) ?_ fun Q1 hQ1 ⟨k, hk⟩ I1 hI1 => ?_
   ·simp (decide := true) (maxSteps := 4000000) only [go_sem, Nat.reduceAdd, Nat.reduceSub, Nat.reduceMul, Nat.reduceDiv, Nat.reduceMod, Nat.reduceLT, Nat.reduceLeDiff, Nat.reduceEqDiff, Nat.reduceBEq, Nat.reduceBNe, Nat.reduceGT, Int.reduceAdd, Int.reduceSub, Int.reduceMul, Int.reduceNeg, Int.reduceLT, Int.reduceLE, Int.reduceEq, Int.reduceNe, Int.reduceBEq, Int.reduceBNe, Int.reduceToNat, Int.reduceGT, Int.reduceGE, ↓reduceIte, decide_true, decide_false, eq_self, Nat.mul_one, Nat.zero_mul, Nat.one_mul, Int.le_refl, Nat.le_refl, Int.cast_ofNat_Int]
   ·by_cases hlt : (k : Int) < W.length
    ·obtain ⟨x, hx⟩ : ∃ x, W[k]? = some x := ⟨_, List.getElem?_eq_getElem (by omega)⟩
     have hd := ints_at hx
     rw [Nat.mul_one] at hd
     have hw : IntKind.i64.wrap ((k : Int) + 1) = ((k + 1 : Nat) : Int) := by rw [wrap_in (by omega) (by omega)]; omega
     simp (decide := true) (maxSteps := 4000000) only [go_sem, Nat.reduceAdd, Nat.reduceSub, Nat.reduceMul, Nat.reduceDiv, Nat.reduceMod, Nat.reduceLT, Nat.reduceLeDiff, Nat.reduceEqDiff, Nat.reduceBEq, Nat.reduceBNe, Nat.reduceGT, Int.reduceAdd, Int.reduceSub, Int.reduceMul, Int.reduceNeg, Int.reduceLT, Int.reduceLE, Int.reduceEq, Int.reduceNe, Int.reduceBEq, Int.reduceBNe, Int.reduceToNat, Int.reduceGT, Int.reduceGE, ↓reduceIte, decide_true, decide_false, eq_self, Nat.mul_one, Nat.zero_mul, Nat.one_mul, Int.le_refl, Nat.le_refl, Int.cast_ofNat_Int, hlt, hd]
     refine hI1 _ ⟨k + 1, by omega⟩ (by simp only; omega) ?_
     simp (decide := true) (maxSteps := 4000000) only [go_sem, Nat.reduceAdd, Nat.reduceSub, Nat.reduceMul, Nat.reduceDiv, Nat.reduceMod, Nat.reduceLT, Nat.reduceLeDiff, Nat.reduceEqDiff, Nat.reduceBEq, Nat.reduceBNe, Nat.reduceGT, Int.reduceAdd, Int.reduceSub, Int.reduceMul, Int.reduceNeg, Int.reduceLT, Int.reduceLE, Int.reduceEq, Int.reduceNe, Int.reduceBEq, Int.reduceBNe, Int.reduceToNat, Int.reduceGT, Int.reduceGE, ↓reduceIte, decide_true, decide_false, eq_self, Nat.mul_one, Nat.zero_mul, Nat.one_mul, Int.le_refl, Nat.le_refl, Int.cast_ofNat_Int, hw]
    ·simp (decide := true) (maxSteps := 4000000) only [go_sem, Nat.reduceAdd, Nat.reduceSub, Nat.reduceMul, Nat.reduceDiv, Nat.reduceMod, Nat.reduceLT, Nat.reduceLeDiff, Nat.reduceEqDiff, Nat.reduceBEq, Nat.reduceBNe, Nat.reduceGT, Int.reduceAdd, Int.reduceSub, Int.reduceMul, Int.reduceNeg, Int.reduceLT, Int.reduceLE, Int.reduceEq, Int.reduceNe, Int.reduceBEq, Int.reduceBNe, Int.reduceToNat, Int.reduceGT, Int.reduceGE, ↓reduceIte, decide_true, decide_false, eq_self, Nat.mul_one, Nat.zero_mul, Nat.one_mul, Int.le_refl, Nat.le_refl, Int.cast_ofNat_Int, hlt]
     refine hQ1 _ _ ?_
     simp (decide := true) (maxSteps := 4000000) only [go_sem, Nat.reduceAdd, Nat.reduceSub, Nat.reduceMul, Nat.reduceDiv, Nat.reduceMod, Nat.reduceLT, Nat.reduceLeDiff, Nat.reduceEqDiff, Nat.reduceBEq, Nat.reduceBNe, Nat.reduceGT, Int.reduceAdd, Int.reduceSub, Int.reduceMul, Int.reduceNeg, Int.reduceLT, Int.reduceLE, Int.reduceEq, Int.reduceNe, Int.reduceBEq, Int.reduceBNe, Int.reduceToNat, Int.reduceGT, Int.reduceGE, ↓reduceIte, decide_true, decide_false, eq_self, Nat.mul_one, Nat.zero_mul, Nat.one_mul, Int.le_refl, Nat.le_refl, Int.cast_ofNat_Int]
def cutP (W : List Int) (num den : Int) : List Int → Int × Int
 | [a, b] => (num * at_ W a, den * at_ W b)
 | [a, b, c, d] => (num * at_ W a * at_ W c, den * at_ W b * at_ W d)
 | _ => (1, 1)
theorem cutP_b {W : List Int} (hW : whOk W) {num den : Int} (hn : 1 ≤ num ∧ num ≤ 1000) (hd : 1 ≤ den ∧ den ≤ 1000) {g : List Int} (hg : gOk W.length g.length g) : (1 ≤ (cutP W num den g).1 ∧ (cutP W num den g).1 ≤ 40000000) ∧ 1 ≤ (cutP W num den g).2 ∧ (cutP W num den g).2 ≤ 40000000 := by
 unfold cutP
 split
 ·rename_i a b
  have b1 := at_b hW (hg.2.2 a (by simp)).1 (hg.2.2 a (by simp)).2
  have b2 := at_b hW (hg.2.2 b (by simp)).1 (hg.2.2 b (by simp)).2
  have m1 := mul_b hn b1
  have m2 := mul_b hd b2
  simp only; omega
 ·rename_i a b c d
  have b1 := at_b hW (hg.2.2 a (by simp)).1 (hg.2.2 a (by simp)).2
  have b2 := at_b hW (hg.2.2 b (by simp)).1 (hg.2.2 b (by simp)).2
  have b3 := at_b hW (hg.2.2 c (by simp)).1 (hg.2.2 c (by simp)).2
  have b4 := at_b hW (hg.2.2 d (by simp)).1 (hg.2.2 d (by simp)).2
  have m1 := mul_b (mul_b hn b1) b3
  have m2 := mul_b (mul_b hd b2) b4
  simp only; omega
 ·simp only; omega
def isG (n : Nat) (g : List Int) : Prop := gOk n 2 g ∨ gOk n 4 g
theorem isG_cases {n : Nat} {g : List Int} (h : isG n g) : (∃ a b, g = [a, b] ∧ ((0 ≤ a ∧ a < n) ∧ 0 ≤ b ∧ b < n) ∧ b ≠ a) ∨ ∃ a b c d, g = [a, b, c, d] ∧ ((0 ≤ a ∧ a < n) ∧ (0 ≤ b ∧ b < n) ∧ (0 ≤ c ∧ c < n) ∧ 0 ≤ d ∧ d < n) ∧ b ≠ a ∧ c ≠ a ∧ c ≠ b ∧ d ≠ a ∧ d ≠ b ∧ d ≠ c := by
 rcases h with h | h
 ·left
  match g, h with
  | [a, b], h =>
   have := h.2.1
   simp only [List.nodup_cons, List.mem_singleton, List.not_mem_nil, not_false_eq_true, List.nodup_nil, and_true] at this
   exact ⟨a, b, rfl, ⟨h.2.2 a (by simp), h.2.2 b (by simp)⟩, fun e => this e.symm⟩
 ·right
  match g, h with
  | [a, b, c, d], h =>
   have := h.2.1
   simp only [List.nodup_cons, List.mem_cons, List.mem_singleton, List.not_mem_nil, not_false_eq_true, List.nodup_nil, and_true, or_false, not_or] at this
   exact ⟨a, b, c, d, rfl, ⟨h.2.2 a (by simp), h.2.2 b (by simp), h.2.2 c (by simp), h.2.2 d (by simp)⟩, fun e => this.1.1 e.symm, fun e => this.1.2.1 e.symm, fun e => this.2.1.1 e.symm, fun e => this.1.2.2 e.symm, fun e => this.2.1.2 e.symm, fun e => this.2.2 e.symm⟩
theorem isG_ok {n : Nat} {g : List Int} (h : isG n g) : gOk n g.length g := by rcases h with h | h <;> exact ⟨rfl, h.2⟩
theorem sCuts_c (W : List Int) (f fg : Bool) (num den : Int) (hW : whOk W) (hn : 1 ≤ num ∧ num ≤ 1000) (hdn : 1 ≤ den ∧ den ≤ 1000) {g : List Int} (hg : isG W.length g) : PCalls Tryd.prog 67 [latT W f num den, .sl (ints g) g.length fg] (.agg [.int .i64 (cutP W num den g).1, .int .i64 (cutP W num den g).2]) := by
 rcases isG_cases hg with ⟨a, b, rfl, h, _⟩ | ⟨a, b, c, d, rfl, h, _⟩
 ·exact sCuts2_c W f fg num den hW hn hdn a b h.1 h.2
 ·exact sCuts4_c W f fg num den hW hn hdn a b c d h.1 h.2.1 h.2.2.1 h.2.2.2
end Go.Proofs.YtlonlnfenbadbaaDoor

/- Part TGf. -/
namespace Go.Proofs.YtlonlnfenbadbaaDoor
open Go.RowKit Go.Pm Go.Oc Go.Oh Go.Ow
set_option maxRecDepth 100000
set_option linter.unusedVariables false
set_option maxHeartbeats 8000000

def cutsB (W : List Int) (num den p q : Int) (g : List Int) : Bool := decide (lowP (cutP W num den g).1 (cutP W num den g).2 = lowP p q)
theorem gearsL_ok (n : Nat) : ∀ g ∈ gearsL n, isG n g := by
 intro g hg
 have h0 : gOk n 0 [] := ⟨rfl, List.nodup_nil, fun x hx => by cases hx⟩
 rcases List.mem_append.1 hg with hg | hg
 ·exact .inl (by have := dfs_ok n 2 [] 0 h0 g hg; simpa using this)
 ·exact .inr (by have := dfs_ok n 4 [] 0 h0 g hg; simpa using this)
open Classical in
noncomputable def gCuts (W : List Int) (f : Bool) (num den : Int) : List TV → Option TV
 | [lt, g] => match decG g with
  | some l => if lt = latT W f num den ∧ isG W.length l then some (.agg [.int .i64 (cutP W num den l).1, .int .i64 (cutP W num den l).2]) else none
  | none => none
 | _ => none
theorem gCuts_ok {W : List Int} {f : Bool} {num den : Int} (hW : whOk W) (hn : 1 ≤ num ∧ num ≤ 1000) (hdn : 1 ≤ den ∧ den ≤ 1000) : ∀ xs r, gCuts W f num den xs = some r → PCalls Tryd.prog 67 xs r := by
 intro xs r e
 unfold gCuts at e
 split at e
 ·split at e
  ·rename_i l hl
   split at e
   ·rename_i hc
    obtain ⟨rfl, hg⟩ := hc
    cases e
    have h0 : ¬ l.length = 0 := by rcases hg with h | h <;> (rw [h.1]; omega)
    rw [decG_some hl]; unfold gT; rw [if_neg h0]
    exact sCuts_c W f false num den hW hn hdn hg
   ·cases e
  ·cases e
 ·cases e
open Classical in
@[go_sem] theorem gCuts_eq (W : List Int) (f : Bool) (num den : Int) (lt g : TV) : gCuts W f num den [lt, g] = match decG g with
  | some l => if lt = latT W f num den ∧ isG W.length l then some (.agg [.int .i64 (cutP W num den l).1, .int .i64 (cutP W num den l).2]) else none
  | none => none := rfl
noncomputable def scLowest : List TV → Option TV
 | [.agg [.int .i64 a, .int .i64 b]] => if (0 < a ∧ a ≤ 1000000000000) ∧ 0 < b ∧ b ≤ 1000000000000 then some (.agg [.int .i64 (lowP a b).1, .int .i64 (lowP a b).2]) else none
 | _ => none
theorem scLowest_ok : ∀ xs r, scLowest xs = some r → PCalls Tryd.prog 65 xs r := by
 intro xs r h
 unfold scLowest at h
 split at h
 ·split at h
  ·rename_i hc; cases h; exact sLowest_c _ _ hc.1 hc.2
  ·cases h
 ·cases h
attribute [go_sem] scLowest
noncomputable def scIsPitch : List TV → Option TV
 | [.agg [.int .i64 a, .int .i64 b]] => some (.bool (inB a 1 1000 && inB b 1 1000))
 | _ => none
theorem scIsPitch_ok : ∀ xs r, scIsPitch xs = some r → PCalls Tryd.prog 64 xs r := by
 intro xs r h
 unfold scIsPitch at h
 split at h
 ·cases h; exact sIsPitch_c _ _
 ·cases h
attribute [go_sem] scIsPitch
theorem key_pitch (a b : Int) : keyOk Tryd.prog 123 (.agg [.int .i64 a, .int .i64 b]) = true := by kernel_rfl
theorem decG_gT (g : List Int) : decG (gT g) = some g := by
 unfold gT
 split
 ·rename_i h; rw [List.eq_nil_of_length_eq_zero h]; rfl
 ·rename_i h; unfold decG; simp only [unIs]; rw [if_pos ⟨trivial, h⟩]
theorem find_at {α : Type} (p : α → Bool) : ∀ l : List α, (∀ g, l.find? p = some g → ∃ i : Nat, l[i]? = some g ∧ p g = true ∧ ∀ (j : Nat) (g' : α), j < i → l[j]? = some g' → p g' = false) ∧ (l.find? p = none → ∀ (j : Nat) (g' : α), l[j]? = some g' → p g' = false)
 | [] => ⟨fun g h => (by cases h), fun _ j g' h => (by cases j <;> cases h)⟩
 | x :: l => by
  obtain ⟨i1, i2⟩ := find_at p l
  rw [List.find?_cons]
  cases hx : p x with
  | true =>
   refine ⟨fun g h => ?_, fun h => by cases h⟩
   cases h
   exact ⟨0, rfl, hx, fun j g' hj => by omega⟩
  | false =>
   refine ⟨fun g h => ?_, fun h j g' hg => ?_⟩
   ·obtain ⟨i, a, b, c⟩ := i1 g h
    refine ⟨i + 1, a, b, fun j g' hj hg => ?_⟩
    cases j with
    | zero => cases hg; exact hx
    | succ j => exact c j g' (by omega) hg
   ·cases j with
    | zero => cases hg; exact hx
    | succ j => exact i2 h j g' hg
theorem updT_same (f : TV → Option TV) (k x : TV) : updT f k x k = some x := by simp [updT]
theorem sCut_c (W : List Int) (f : Bool) (num den p q : Int) (hs : srt W) (hW : whOk W) (hn : 1 ≤ num ∧ num ≤ 1000) (hdn : 1 ≤ den ∧ den ≤ 1000) (hp : 1 ≤ p ∧ p ≤ 1000) (hq : 1 ≤ q ∧ q ≤ 1000) :
  PCalls Tryd.prog 18 [latT W f num den, .int .i64 p, .int .i64 q] (match (gearsL W.length).find? (cutsB W num den p q) with
   | some g => .tup [.sl (ints g) g.length true, .int .i64 0]
   | none => .tup [.nilSl, .int .i64 4]) := by
 have hok : latOk W num den = true := by
  unfold latOk
  rw [inB_iff.2 (show (2 : Int) ≤ W.length ∧ (W.length : Int) ≤ 10 by have := hW.1; omega), inB_iff.2 hn, inB_iff.2 hdn, Bool.true_and, Bool.true_and, Bool.true_and, List.all_eq_true]
  exact fun x hx => inB_iff.2 (hW.2 x hx)
 have hC := sCheck_c W f num den hs (by have := hW.1; omega)
 rw [hok, if_pos rfl] at hC
 have hI := gearsI_c W f num den hW.1.2
 have hip : inB p 1 1000 = true := inB_iff.2 hp
 have hiq : inB q 1 1000 = true := inB_iff.2 hq
 have hlo : (0 < p ∧ p ≤ 1000000000000) ∧ 0 < q ∧ q ≤ 1000000000000 := by omega
 obtain ⟨⟨l1, l2⟩, hl⟩ : ∃ l, lowP p q = l := ⟨_, rfl⟩
 have hcb : ∀ g, cutsB W num den p q g = decide (lowP (cutP W num den g).1 (cutP W num den g).2 = (l1, l2)) := fun g => by unfold cutsB; rw [hl]
 refine pcalls_by Tryd.mixes (Spec.one_ok (oneP_ok hC) (Spec.one_ok (gCuts_ok (f := f) hW hn hdn) (Spec.one_ok scLowest_ok (Spec.one_ok scIsPitch_ok noSpec_ok)))) (fn := Tryd.f18) Tryd.func18 rfl (by kernel_rfl) (by show 3 ≤ _; decide) ?_
 simp (decide := true) (maxSteps := 4000000) only [go_sem, Nat.reduceAdd, Nat.reduceSub, Nat.reduceMul, Nat.reduceDiv, Nat.reduceMod, Nat.reduceLT, Nat.reduceLeDiff, Nat.reduceEqDiff, Nat.reduceBEq, Nat.reduceBNe, Nat.reduceGT, Int.reduceAdd, Int.reduceSub, Int.reduceMul, Int.reduceNeg, Int.reduceLT, Int.reduceLE, Int.reduceEq, Int.reduceNe, Int.reduceBEq, Int.reduceBNe, Int.reduceToNat, Int.reduceGT, Int.reduceGE, ↓reduceIte, decide_true, decide_false, eq_self, Nat.mul_one, Nat.zero_mul, Nat.one_mul, Int.le_refl, Nat.le_refl, Int.cast_ofNat_Int, Tryd.f18, latT, hip, hiq, hlo, hl]
 obtain ⟨f1, f2⟩ := find_at (cutsB W num den p q) (gearsL W.length)
 have hxs : ∀ (j : Nat) (v : List TV), ((gearsL W.length).map fun g => [gT g])[j]? = some v → ∃ g, (gearsL W.length)[j]? = some g ∧ v = [gT g] := fun j v hv => by
  rw [List.getElem?_map, Option.map_eq_some_iff] at hv
  obtain ⟨g, hg, rfl⟩ := hv
  exact ⟨g, hg, rfl⟩
 cases hfd : (gearsL W.length).find? (cutsB W num den p q) with
 | none =>
  have f2 := f2 hfd
  refine pwpC_rangeS rfl 66 [.agg [.sl (ints W) W.length f, .int .i64 num, .int .i64 den]] [] ((gearsL W.length).map fun g => [gT g]) [(33, .t (.fn 66 [.agg [.sl (ints W) W.length f, .int .i64 num, .int .i64 den]] [])), (9, .ptr 1 0), (10, .ptr 2 0), (11, .ptr 4 0)]
   (fun _ => [.box [.t (.sl (ints W) W.length f), .t (.int .i64 num), .t (.int .i64 den)], .box [.t (.int .i64 l1), .t (.int .i64 l2)], .box [.t (.sl (ints W) W.length f), .t (.int .i64 num), .t (.int .i64 den)], .mp 123 (fun _ => none), .box [.mapr 3]]) 5 ((gearsL W.length).map fun g => [gT g]).length false .normal ?_ (by rfl) (by rfl) ?_ hI ?_ (Nat.le_refl _) (fun _ => ⟨rfl, rfl⟩) (fun e => by cases e) (fun i => Nat.le_refl _) (fun i v him hx => ?_) ?_
  ·simp (decide := true) (maxSteps := 4000000) only [go_sem, Nat.reduceAdd, Nat.reduceSub, Nat.reduceMul, Nat.reduceDiv, Nat.reduceMod, Nat.reduceLT, Nat.reduceLeDiff, Nat.reduceEqDiff, Nat.reduceBEq, Nat.reduceBNe, Nat.reduceGT, Int.reduceAdd, Int.reduceSub, Int.reduceMul, Int.reduceNeg, Int.reduceLT, Int.reduceLE, Int.reduceEq, Int.reduceNe, Int.reduceBEq, Int.reduceBNe, Int.reduceToNat, Int.reduceGT, Int.reduceGE, ↓reduceIte, decide_true, decide_false, eq_self, Nat.mul_one, Nat.zero_mul, Nat.one_mul, Int.le_refl, Nat.le_refl, Int.cast_ofNat_Int]
   first | done | trace_state
  ·simp (decide := true) (maxSteps := 4000000) only [go_sem, Nat.reduceAdd, Nat.reduceSub, Nat.reduceMul, Nat.reduceDiv, Nat.reduceMod, Nat.reduceLT, Nat.reduceLeDiff, Nat.reduceEqDiff, Nat.reduceBEq, Nat.reduceBNe, Nat.reduceGT, Int.reduceAdd, Int.reduceSub, Int.reduceMul, Int.reduceNeg, Int.reduceLT, Int.reduceLE, Int.reduceEq, Int.reduceNe, Int.reduceBEq, Int.reduceBNe, Int.reduceToNat, Int.reduceGT, Int.reduceGE, ↓reduceIte, decide_true, decide_false, eq_self, Nat.mul_one, Nat.zero_mul, Nat.one_mul, Int.le_refl, Nat.le_refl, Int.cast_ofNat_Int]
   first | done | trace_state
  ·intro v hv
   obtain ⟨g, _, rfl⟩ := List.mem_map.1 hv
   rfl
  ·obtain ⟨gg, hg, rfl⟩ := hxs i v hx
   have hgi := gearsL_ok W.length gg (List.mem_of_getElem? hg)
   have hcu := cutP_b hW hn hdn (isG_ok hgi)
   have hde := decG_gT gg
   have hce := hcb gg
   obtain ⟨⟨u1, u2⟩, hu⟩ : ∃ u, cutP W num den gg = u := ⟨_, rfl⟩
   rw [hu] at hcu hce
   simp only at hcu hce
   have hlb : (0 < u1 ∧ u1 ≤ 1000000000000) ∧ 0 < u2 ∧ u2 ≤ 1000000000000 := by omega
   obtain ⟨⟨v1, v2⟩, hv⟩ : ∃ v, lowP u1 u2 = v := ⟨_, rfl⟩
   rw [hv] at hce
   have heq : ((v1 == l1) && (v2 == l2)) = decide ((v1, v2) = (l1, l2)) := by
    rw [Bool.eq_iff_iff]; simp
   rw [f2 i gg hg] at hce
   have heq2 : ((v1 == l1) && (v2 == l2)) = false := heq.trans hce.symm
   simp (decide := true) (maxSteps := 4000000) only [go_sem, Nat.reduceAdd, Nat.reduceSub, Nat.reduceMul, Nat.reduceDiv, Nat.reduceMod, Nat.reduceLT, Nat.reduceLeDiff, Nat.reduceEqDiff, Nat.reduceBEq, Nat.reduceBNe, Nat.reduceGT, Int.reduceAdd, Int.reduceSub, Int.reduceMul, Int.reduceNeg, Int.reduceLT, Int.reduceLE, Int.reduceEq, Int.reduceNe, Int.reduceBEq, Int.reduceBNe, Int.reduceToNat, Int.reduceGT, Int.reduceGE, ↓reduceIte, decide_true, decide_false, eq_self, Nat.mul_one, Nat.zero_mul, Nat.one_mul, Int.le_refl, Nat.le_refl, Int.cast_ofNat_Int, hde, latT, hgi, hu, hlb, hv, heq2]
   first | done | trace_state
  ·simp (decide := true) (maxSteps := 4000000) only [go_sem, Nat.reduceAdd, Nat.reduceSub, Nat.reduceMul, Nat.reduceDiv, Nat.reduceMod, Nat.reduceLT, Nat.reduceLeDiff, Nat.reduceEqDiff, Nat.reduceBEq, Nat.reduceBNe, Nat.reduceGT, Int.reduceAdd, Int.reduceSub, Int.reduceMul, Int.reduceNeg, Int.reduceLT, Int.reduceLE, Int.reduceEq, Int.reduceNe, Int.reduceBEq, Int.reduceBNe, Int.reduceToNat, Int.reduceGT, Int.reduceGE, ↓reduceIte, decide_true, decide_false, eq_self, Nat.mul_one, Nat.zero_mul, Nat.one_mul, Int.le_refl, Nat.le_refl, Int.cast_ofNat_Int, key_pitch]
   first | done | trace_state
 | some g0 =>
  obtain ⟨i0, hg0, hc0, hb0⟩ := f1 g0 hfd
  have hil := (List.getElem?_eq_some_iff.1 hg0).1
  have hgi0 := gearsL_ok W.length g0 (List.mem_of_getElem? hg0)
  have hn0 : ¬ g0.length = 0 := by rcases hgi0 with h | h <;> (rw [h.1]; omega)
  have hgt : gT g0 = .sl (ints g0) g0.length false := gT_ne hn0
  have hil0 := ints_len g0
  have htk0 : (ints g0).take g0.length = ints g0 := List.take_of_length_le (by rw [hil0]; exact Nat.le_refl _)
  refine pwpC_rangeS rfl 66 [.agg [.sl (ints W) W.length f, .int .i64 num, .int .i64 den]] [] ((gearsL W.length).map fun g => [gT g]) [(33, .t (.fn 66 [.agg [.sl (ints W) W.length f, .int .i64 num, .int .i64 den]] [])), (9, .ptr 1 0), (10, .ptr 2 0), (11, .ptr 4 0)]
   (fun i => [.box [.t (.sl (ints W) W.length f), .t (.int .i64 num), .t (.int .i64 den)], .box [.t (.int .i64 l1), .t (.int .i64 l2)], .box [.t (.sl (ints W) W.length f), .t (.int .i64 num), .t (.int .i64 den)], .mp 123 (if i = i0 + 1 then updT (fun _ => none) (.agg [.int .i64 l1, .int .i64 l2]) (gT g0) else fun _ => none), .box [.mapr 3]]) 5 (i0 + 1) true (.exit 0) ?_ (by rfl) (by rfl) ?_ hI ?_ (by rw [List.length_map]; omega) (fun e => by cases e) (fun _ => ⟨by omega, rfl⟩) (fun i => Nat.le_refl _) (fun i v him hx => ?_) ?_
  ·have z : ((0 : Nat) = i0 + 1) = False := by simp
   simp (decide := true) (maxSteps := 4000000) only [go_sem, Nat.reduceAdd, Nat.reduceSub, Nat.reduceMul, Nat.reduceDiv, Nat.reduceMod, Nat.reduceLT, Nat.reduceLeDiff, Nat.reduceEqDiff, Nat.reduceBEq, Nat.reduceBNe, Nat.reduceGT, Int.reduceAdd, Int.reduceSub, Int.reduceMul, Int.reduceNeg, Int.reduceLT, Int.reduceLE, Int.reduceEq, Int.reduceNe, Int.reduceBEq, Int.reduceBNe, Int.reduceToNat, Int.reduceGT, Int.reduceGE, ↓reduceIte, decide_true, decide_false, eq_self, Nat.mul_one, Nat.zero_mul, Nat.one_mul, Int.le_refl, Nat.le_refl, Int.cast_ofNat_Int, z]
   first | done | trace_state
  ·simp (decide := true) (maxSteps := 4000000) only [go_sem, Nat.reduceAdd, Nat.reduceSub, Nat.reduceMul, Nat.reduceDiv, Nat.reduceMod, Nat.reduceLT, Nat.reduceLeDiff, Nat.reduceEqDiff, Nat.reduceBEq, Nat.reduceBNe, Nat.reduceGT, Int.reduceAdd, Int.reduceSub, Int.reduceMul, Int.reduceNeg, Int.reduceLT, Int.reduceLE, Int.reduceEq, Int.reduceNe, Int.reduceBEq, Int.reduceBNe, Int.reduceToNat, Int.reduceGT, Int.reduceGE, ↓reduceIte, decide_true, decide_false, eq_self, Nat.mul_one, Nat.zero_mul, Nat.one_mul, Int.le_refl, Nat.le_refl, Int.cast_ofNat_Int]
   first | done | trace_state
  ·intro v hv
   obtain ⟨g, _, rfl⟩ := List.mem_map.1 hv
   rfl
  ·obtain ⟨gg, hg, rfl⟩ := hxs i v hx
   have hgi := gearsL_ok W.length gg (List.mem_of_getElem? hg)
   have hcu := cutP_b hW hn hdn (isG_ok hgi)
   have hde := decG_gT gg
   have hce := hcb gg
   obtain ⟨⟨u1, u2⟩, hu⟩ : ∃ u, cutP W num den gg = u := ⟨_, rfl⟩
   rw [hu] at hcu hce
   simp only at hcu hce
   have hlb : (0 < u1 ∧ u1 ≤ 1000000000000) ∧ 0 < u2 ∧ u2 ≤ 1000000000000 := by omega
   obtain ⟨⟨v1, v2⟩, hv⟩ : ∃ v, lowP u1 u2 = v := ⟨_, rfl⟩
   rw [hv] at hce
   have heq : ((v1 == l1) && (v2 == l2)) = decide ((v1, v2) = (l1, l2)) := by
    rw [Bool.eq_iff_iff]; simp
   have z1 : (i = i0 + 1) = False := by simp; omega
   by_cases hi0 : i = i0
   ·subst hi0
    rw [hg] at hg0
    cases hg0
    rw [hc0] at hce
    have heq2 : ((v1 == l1) && (v2 == l2)) = true := heq.trans hce.symm
    have hvl : v1 = l1 ∧ v2 = l2 := by simpa using heq2
    obtain ⟨rfl, rfl⟩ := hvl
    simp (decide := true) (maxSteps := 4000000) only [go_sem, Nat.reduceAdd, Nat.reduceSub, Nat.reduceMul, Nat.reduceDiv, Nat.reduceMod, Nat.reduceLT, Nat.reduceLeDiff, Nat.reduceEqDiff, Nat.reduceBEq, Nat.reduceBNe, Nat.reduceGT, Int.reduceAdd, Int.reduceSub, Int.reduceMul, Int.reduceNeg, Int.reduceLT, Int.reduceLE, Int.reduceEq, Int.reduceNe, Int.reduceBEq, Int.reduceBNe, Int.reduceToNat, Int.reduceGT, Int.reduceGE, ↓reduceIte, decide_true, decide_false, eq_self, Nat.mul_one, Nat.zero_mul, Nat.one_mul, Int.le_refl, Nat.le_refl, Int.cast_ofNat_Int, z1, hde, latT, hgi, hu, hlb, hv, heq2, key_pitch]
    first | done | trace_state
   ·have z2 : (i + 1 = i0 + 1) = False := by simp; omega
    have z3 : (i = i0) = False := by simp; omega
    rw [hb0 i gg (by omega) hg] at hce
    have heq2 : ((v1 == l1) && (v2 == l2)) = false := heq.trans hce.symm
    simp (decide := true) (maxSteps := 4000000) only [go_sem, Nat.reduceAdd, Nat.reduceSub, Nat.reduceMul, Nat.reduceDiv, Nat.reduceMod, Nat.reduceLT, Nat.reduceLeDiff, Nat.reduceEqDiff, Nat.reduceBEq, Nat.reduceBNe, Nat.reduceGT, Int.reduceAdd, Int.reduceSub, Int.reduceMul, Int.reduceNeg, Int.reduceLT, Int.reduceLE, Int.reduceEq, Int.reduceNe, Int.reduceBEq, Int.reduceBNe, Int.reduceToNat, Int.reduceGT, Int.reduceGE, ↓reduceIte, decide_true, decide_false, eq_self, Nat.mul_one, Nat.zero_mul, Nat.one_mul, Int.le_refl, Nat.le_refl, Int.cast_ofNat_Int, z1, z2, z3, hde, latT, hgi, hu, hlb, hv, heq2]
    first | done | trace_state
  ·simp (decide := true) (maxSteps := 4000000) only [go_sem, Nat.reduceAdd, Nat.reduceSub, Nat.reduceMul, Nat.reduceDiv, Nat.reduceMod, Nat.reduceLT, Nat.reduceLeDiff, Nat.reduceEqDiff, Nat.reduceBEq, Nat.reduceBNe, Nat.reduceGT, Int.reduceAdd, Int.reduceSub, Int.reduceMul, Int.reduceNeg, Int.reduceLT, Int.reduceLE, Int.reduceEq, Int.reduceNe, Int.reduceBEq, Int.reduceBNe, Int.reduceToNat, Int.reduceGT, Int.reduceGE, ↓reduceIte, decide_true, decide_false, eq_self, Nat.mul_one, Nat.zero_mul, Nat.one_mul, Int.le_refl, Nat.le_refl, Int.cast_ofNat_Int, key_pitch, updT_same, hgt, htk0, hil0, Nat.mul_one]
   first | done | trace_state
end Go.Proofs.YtlonlnfenbadbaaDoor

/- Part TGs. -/
namespace Go.Proofs.YtlonlnfenbadbaaDoor
namespace Gs
open Go.RowKit Go.Pm Go.Oc Go.Oc.Gl Gl
noncomputable def spW2Q : Pm.Spec := ((noSpec.one 117 glWithin).one 151 glValid).one 152 glHolds
@[go_sem] theorem spW2Q_p (f : FuncId) (xs : List TV) : spW2Q.p f xs = Pm.Spec.p (((noSpec.one 117 glWithin).one 151 glValid).one 152 glHolds) f xs := rfl
@[go_sem] theorem spW2Q_h (f : FuncId) (ps : List PV) (hl : List PO) : spW2Q.h f ps hl = Pm.Spec.h (((noSpec.one 117 glWithin).one 151 glValid).one 152 glHolds) f ps hl := rfl
@[go_sem] theorem spW2Q_y (Y : Pm.YS) (f : FuncId) (ps : List PV) (hl : List PO) : spW2Q.y Y f ps hl = Pm.Spec.y (((noSpec.one 117 glWithin).one 151 glValid).one 152 glHolds) Y f ps hl := rfl
@[go_sem] theorem spW2Q_fz (f : FuncId) : spW2Q.fz f = Pm.Spec.fz (((noSpec.one 117 glWithin).one 151 glValid).one 152 glHolds) f := rfl
@[go_sem] theorem spW2Q_fr (f : FuncId) : spW2Q.fr f = Pm.Spec.fr (((noSpec.one 117 glWithin).one 151 glValid).one 152 glHolds) f := rfl
@[go_sem] theorem spW2Q_yf (f : FuncId) : spW2Q.yf f = Pm.Spec.yf (((noSpec.one 117 glWithin).one 151 glValid).one 152 glHolds) f := rfl
@[go_sem] theorem spW2Q_gd : spW2Q.gd = Pm.Spec.gd (((noSpec.one 117 glWithin).one 151 glValid).one 152 glHolds) := rfl
@[go_sem] theorem spW2Q_mu (t : TypeId) : spW2Q.mu t = Pm.Spec.mu (((noSpec.one 117 glWithin).one 151 glValid).one 152 glHolds) t := rfl
@[go_sem] theorem spW2Q_nf (t : TypeId) : spW2Q.nf t = Pm.Spec.nf (((noSpec.one 117 glWithin).one 151 glValid).one 152 glHolds) t := rfl
theorem spW2_okQ : SpecOk Tryd.prog spW2Q := Spec.one_ok glHolds_ok (Spec.one_ok glValid_ok (Spec.one_ok glWithin_ok noSpec_ok))
set_option maxRecDepth 100000
set_option linter.unusedVariables false
set_option maxHeartbeats 4000000

theorem gFrValid_cQ (f : Fr) : PCalls Tryd.prog 118 [.agg f.cs] (.bool (frOk f)) := by
 refine pcalls_by Tryd.mixes spW2_okQ (fn := Tryd.f118) Tryd.func118 rfl (by kernel_rfl) (by show 1 ≤ _; decide) ?_
 simp (decide := true) (maxSteps := 4000000) only [go_sem, Nat.reduceAdd, Nat.reduceSub, Nat.reduceMul, Nat.reduceDiv, Nat.reduceMod, Nat.reduceLT, Nat.reduceLeDiff, Nat.reduceEqDiff, Nat.reduceBEq, Nat.reduceBNe, Nat.reduceGT, Int.reduceAdd, Int.reduceSub, Int.reduceMul, Int.reduceNeg, Int.reduceLT, Int.reduceLE, Int.reduceEq, Int.reduceNe, Int.reduceBEq, Int.reduceBNe, Int.reduceToNat, Int.reduceGT, Int.reduceGE, ↓reduceIte, decide_true, decide_false, eq_self, Nat.mul_one, Nat.zero_mul, Nat.one_mul, Int.le_refl, Nat.le_refl, Int.cast_ofNat_Int, Tryd.f118, Fr.cs, frOk]
theorem gFrAgrees_cQ (f : Fr) (c : Int) (h : frOk f = true) : PCalls Tryd.prog 119 [.agg f.cs, .int .i64 c] (.bool (agB f c)) := by
 have h' := frOk_iff.1 h
 have w1 : IntKind.i64.wrap (f.p.lo + f.r.lo) = f.p.lo + f.r.lo := wrap_in (by omega) (by omega)
 have w2 : IntKind.i64.wrap (f.p.hi + f.r.hi) = f.p.hi + f.r.hi := wrap_in (by omega) (by omega)
 have w3 : IntKind.i64.wrap (f.p.lo - f.r.hi) = f.p.lo - f.r.hi := wrap_in (by omega) (by omega)
 have w4 : IntKind.i64.wrap (f.p.hi - f.r.lo) = f.p.hi - f.r.lo := wrap_in (by omega) (by omega)
 refine pcalls_by Tryd.mixes spW2_okQ (fn := Tryd.f119) Tryd.func119 rfl (by kernel_rfl) (by show 2 ≤ _; decide) ?_
 unfold agB
 by_cases c1 : f.g ≥ 0 <;> by_cases c2 : f.g ≤ 0 <;> cases c3 : inB c (f.p.lo + f.r.lo) (f.p.hi + f.r.hi) <;> cases c4 : inB c (f.p.lo - f.r.hi) (f.p.hi - f.r.lo) <;> simp (decide := true) (maxSteps := 4000000) only [go_sem, Nat.reduceAdd, Nat.reduceSub, Nat.reduceMul, Nat.reduceDiv, Nat.reduceMod, Nat.reduceLT, Nat.reduceLeDiff, Nat.reduceEqDiff, Nat.reduceBEq, Nat.reduceBNe, Nat.reduceGT, Int.reduceAdd, Int.reduceSub, Int.reduceMul, Int.reduceNeg, Int.reduceLT, Int.reduceLE, Int.reduceEq, Int.reduceNe, Int.reduceBEq, Int.reduceBNe, Int.reduceToNat, Int.reduceGT, Int.reduceGE, ↓reduceIte, decide_true, decide_false, eq_self, Nat.mul_one, Nat.zero_mul, Nat.one_mul, Int.le_refl, Nat.le_refl, Int.cast_ofNat_Int, Tryd.f119, Fr.cs, w1, w2, w3, w4, c1, c2, c3, c4, Bool.and_self, Bool.or_self, Bool.false_and, Bool.and_false, Bool.or_false, Bool.or_true, Bool.true_and, Bool.and_true]
noncomputable def glFrValidQ : List TV → Option TV
 | [.agg [.int .i64 a, .int .i64 b, .int .i64 c, .int .i64 d, .int .i64 e]] => some (.bool (frOk ⟨⟨a, b⟩, ⟨c, d⟩, e⟩))
 | _ => none
theorem glFrValidQ_ok : ∀ xs r, glFrValidQ xs = some r → PCalls Tryd.prog 118 xs r := by
 intro xs r h
 unfold glFrValidQ at h
 split at h
 ·cases h; exact gFrValid_cQ ⟨⟨_, _⟩, ⟨_, _⟩, _⟩
 ·cases h
attribute [go_sem] glFrValidQ
noncomputable def glFrAgreesQ : List TV → Option TV
 | [.agg [.int .i64 a, .int .i64 b, .int .i64 c, .int .i64 d, .int .i64 e], .int .i64 n] => if frOk ⟨⟨a, b⟩, ⟨c, d⟩, e⟩ = true then some (.bool (agB ⟨⟨a, b⟩, ⟨c, d⟩, e⟩ n)) else none
 | _ => none
theorem glFrAgreesQ_ok : ∀ xs r, glFrAgreesQ xs = some r → PCalls Tryd.prog 119 xs r := by
 intro xs r h
 unfold glFrAgreesQ at h
 split at h
 ·split at h
  ·rename_i hc; cases h; exact gFrAgrees_cQ ⟨⟨_, _⟩, ⟨_, _⟩, _⟩ _ hc
  ·cases h
 ·cases h
attribute [go_sem] glFrAgreesQ
noncomputable def spF1Q : Pm.Spec := (spW2Q.one 118 glFrValidQ).one 119 glFrAgreesQ
@[go_sem] theorem spF1Q_p (f : FuncId) (xs : List TV) : spF1Q.p f xs = Pm.Spec.p ((spW2Q.one 118 glFrValidQ).one 119 glFrAgreesQ) f xs := rfl
@[go_sem] theorem spF1Q_h (f : FuncId) (ps : List PV) (hl : List PO) : spF1Q.h f ps hl = Pm.Spec.h ((spW2Q.one 118 glFrValidQ).one 119 glFrAgreesQ) f ps hl := rfl
@[go_sem] theorem spF1Q_y (Y : Pm.YS) (f : FuncId) (ps : List PV) (hl : List PO) : spF1Q.y Y f ps hl = Pm.Spec.y ((spW2Q.one 118 glFrValidQ).one 119 glFrAgreesQ) Y f ps hl := rfl
@[go_sem] theorem spF1Q_fz (f : FuncId) : spF1Q.fz f = Pm.Spec.fz ((spW2Q.one 118 glFrValidQ).one 119 glFrAgreesQ) f := rfl
@[go_sem] theorem spF1Q_fr (f : FuncId) : spF1Q.fr f = Pm.Spec.fr ((spW2Q.one 118 glFrValidQ).one 119 glFrAgreesQ) f := rfl
@[go_sem] theorem spF1Q_yf (f : FuncId) : spF1Q.yf f = Pm.Spec.yf ((spW2Q.one 118 glFrValidQ).one 119 glFrAgreesQ) f := rfl
@[go_sem] theorem spF1Q_gd : spF1Q.gd = Pm.Spec.gd ((spW2Q.one 118 glFrValidQ).one 119 glFrAgreesQ) := rfl
@[go_sem] theorem spF1Q_mu (t : TypeId) : spF1Q.mu t = Pm.Spec.mu ((spW2Q.one 118 glFrValidQ).one 119 glFrAgreesQ) t := rfl
@[go_sem] theorem spF1Q_nf (t : TypeId) : spF1Q.nf t = Pm.Spec.nf ((spW2Q.one 118 glFrValidQ).one 119 glFrAgreesQ) t := rfl
theorem spF1_okQ : SpecOk Tryd.prog spF1Q := Spec.one_ok glFrAgreesQ_ok (Spec.one_ok glFrValidQ_ok spW2_okQ)
noncomputable def spF2Q : Pm.Spec := { spF1Q with mu := fun t => t == 128 }
theorem spF2_okQ : SpecOk Tryd.prog spF2Q := ⟨spF1_okQ.1, spF1_okQ.2⟩
@[go_sem] theorem spF2_pQ (f : FuncId) (xs : List TV) : spF2Q.p f xs = spF1Q.p f xs := rfl
@[go_sem] theorem spF2_hQ (f : FuncId) (ps : List PV) (hl : List PO) : spF2Q.h f ps hl = spF1Q.h f ps hl := rfl
@[go_sem] theorem spF2_gdQ : spF2Q.gd = spF1Q.gd := rfl
@[go_sem] theorem spF2_nfQ (t : TypeId) : spF2Q.nf t = spF1Q.nf t := rfl
@[go_sem] theorem spF2_yfQ (f : FuncId) : spF2Q.yf f = spF1Q.yf f := rfl
@[go_sem] theorem spF2_fzQ (f : FuncId) : spF2Q.fz f = spF1Q.fz f := rfl
@[go_sem] theorem spF2_frQ (f : FuncId) : spF2Q.fr f = spF1Q.fr f := rfl
@[go_sem] theorem spF2_muQ (t : TypeId) : spF2Q.mu t = (t == 128) := rfl
attribute [go_sem] popM
set_option maxRecDepth 100000
set_option linter.unusedVariables false
set_option maxHeartbeats 4000000

def outVQ (out : List Span) : PV := if out.length = 0 then .t .nilSl else .gsl 1 (out.length - 1) 2 0 out.length false
def outHQ (out : List Span) : Wr := if out.length = 0 then [] else [(0, .grow 0 [.junk, .junk] 41 2), (1, .grow (out.length - 1) ((out.flatMap Span.cs).map .t) 41 2)]
theorem cellsW_ttQ (l : List PO) : ∀ cs : List TV, cellsW l (cs.map .t) (cs.map .t)
 | [] => trivial
 | c :: cs => ⟨by simp [cellW, PV.toT], cellsW_ttQ l cs⟩
theorem thawC_ttQ (h : Hp) : ∀ cs : List TV, allO ((cs.map PV.t).map (thawC h)) = some cs
 | [] => rfl
 | c :: cs => by simp only [List.map_cons, allO, thawC, PV.toT, thawC_ttQ h cs, Option.map_some]
theorem idsG_ttQ : ∀ cs : List TV, (cs.map PV.t).flatMap idsG = []
 | [] => rfl
 | c :: cs => by simp only [List.map_cons, List.flatMap_cons, idsG_ttQ cs]; rfl
theorem surf_cellsQ (i : List Span) (y : Span) (c : Int) {m : Nat} (hm : i.length = m) :
  (((i.flatMap Span.cs).map PV.t ++ [PV.t (.int .i64 y.lo), PV.t (.int .i64 y.hi)]) : List PV)[m * 2 + 1]? = some (.t (.int .i64 y.hi)) ∧
  ((((i.flatMap Span.cs).map PV.t ++ [PV.t (.int .i64 y.lo), PV.t (.int .i64 y.hi)]) : List PV).take (m * 2 + 1) ++ [PV.t (.int .i64 c)] ++ (((i.flatMap Span.cs).map PV.t ++ [PV.t (.int .i64 y.lo), PV.t (.int .i64 y.hi)]) : List PV).drop (m * 2 + 1 + 1)) = ((i.flatMap Span.cs).map PV.t ++ [PV.t (.int .i64 y.lo), PV.t (.int .i64 c)]) ∧
  (((i.flatMap Span.cs).map PV.t ++ [PV.t (.int .i64 y.lo), PV.t (.int .i64 y.hi)]) : List PV).length = (m + 1) * 2 := by
 have hl : ((i.flatMap Span.cs).map PV.t).length = m * 2 := by rw [List.length_map, flat_len Span.cs (n := 2) (fun _ => rfl), hm]
 refine ⟨?_, ?_, ?_⟩
 ·rw [List.getElem?_append_right (by omega), hl]; simp
 ·rw [List.take_append, List.drop_append, hl, List.take_of_length_le (by omega), List.drop_eq_nil_of_le (by omega)]
  simp
  try omega
 ·rw [List.length_append, hl]; simp; omega
theorem gSurface_cQ {l : List Fr} {s : TV} (hs : IsRow Fr.cs s l) (hl : l.length ≤ 5864062014806) : PCalls Tryd.prog 69 [s] (.tup [if (surfP l).1.length = 0 then .nilSl else .sl ((surfP l).1.flatMap Span.cs) (surfP l).1.length true, .int .i64 (surfP l).2]) := by
 refine pcalls_by Tryd.mixes spF2_okQ (fn := Tryd.f69) Tryd.func69 rfl (by kernel_rfl) (by show 1 ≤ _; decide) ?_
 unfold surfP
 cases hlen : inB l.length 1 12 with
 | false =>
  have hno : frsOk l = false := by unfold frsOk; rw [hlen]; rfl
  rcases hs with ⟨rfl, rfl⟩ | ⟨full, rfl⟩
  ·simp (decide := true) (maxSteps := 4000000) only [go_sem, Nat.reduceAdd, Nat.reduceSub, Nat.reduceMul, Nat.reduceDiv, Nat.reduceMod, Nat.reduceLT, Nat.reduceLeDiff, Nat.reduceEqDiff, Nat.reduceBEq, Nat.reduceBNe, Nat.reduceGT, Int.reduceAdd, Int.reduceSub, Int.reduceMul, Int.reduceNeg, Int.reduceLT, Int.reduceLE, Int.reduceEq, Int.reduceNe, Int.reduceBEq, Int.reduceBNe, Int.reduceToNat, Int.reduceGT, Int.reduceGE, ↓reduceIte, decide_true, decide_false, eq_self, Nat.mul_one, Nat.zero_mul, Nat.one_mul, Int.le_refl, Nat.le_refl, Int.cast_ofNat_Int, Tryd.f69, hno, List.length_nil, show inB 0 1 12 = false from rfl]
  ·simp (decide := true) (maxSteps := 4000000) only [go_sem, Nat.reduceAdd, Nat.reduceSub, Nat.reduceMul, Nat.reduceDiv, Nat.reduceMod, Nat.reduceLT, Nat.reduceLeDiff, Nat.reduceEqDiff, Nat.reduceBEq, Nat.reduceBNe, Nat.reduceGT, Int.reduceAdd, Int.reduceSub, Int.reduceMul, Int.reduceNeg, Int.reduceLT, Int.reduceLE, Int.reduceEq, Int.reduceNe, Int.reduceBEq, Int.reduceBNe, Int.reduceToNat, Int.reduceGT, Int.reduceGE, ↓reduceIte, decide_true, decide_false, eq_self, Nat.mul_one, Nat.zero_mul, Nat.one_mul, Int.le_refl, Nat.le_refl, Int.cast_ofNat_Int, Tryd.f69, hno, hlen, List.length_nil]
 | true =>
  have hlen' := inB_iff.1 hlen
  obtain ⟨full, rfl⟩ := hs.ne (by omega)
  simp (decide := true) (maxSteps := 4000000) only [go_sem, Nat.reduceAdd, Nat.reduceSub, Nat.reduceMul, Nat.reduceDiv, Nat.reduceMod, Nat.reduceLT, Nat.reduceLeDiff, Nat.reduceEqDiff, Nat.reduceBEq, Nat.reduceBNe, Nat.reduceGT, Int.reduceAdd, Int.reduceSub, Int.reduceMul, Int.reduceNeg, Int.reduceLT, Int.reduceLE, Int.reduceEq, Int.reduceNe, Int.reduceBEq, Int.reduceBNe, Int.reduceToNat, Int.reduceGT, Int.reduceGE, ↓reduceIte, decide_true, decide_false, eq_self, Nat.mul_one, Nat.zero_mul, Nat.one_mul, Int.le_refl, Nat.le_refl, Int.cast_ofNat_Int, Tryd.f69, hlen]
  refine pwpC_loopU (A := { k : Nat // k ≤ l.length ∧ (l.take k).all frOk = true }) [0, 15, 16] (fun k => [(17, .t (.int .i64 k.1))]) (fun _ => []) (fun k => l.length - k.1) ⟨0, by omega, rfl⟩ (by decide) (fun _ => by rfl) ?_ fun Q1 hQ1 ⟨k, hk, hka⟩ I1 hI1 => ?_
  ·simp (decide := true) (maxSteps := 4000000) only [go_sem, Nat.reduceAdd, Nat.reduceSub, Nat.reduceMul, Nat.reduceDiv, Nat.reduceMod, Nat.reduceLT, Nat.reduceLeDiff, Nat.reduceEqDiff, Nat.reduceBEq, Nat.reduceBNe, Nat.reduceGT, Int.reduceAdd, Int.reduceSub, Int.reduceMul, Int.reduceNeg, Int.reduceLT, Int.reduceLE, Int.reduceEq, Int.reduceNe, Int.reduceBEq, Int.reduceBNe, Int.reduceToNat, Int.reduceGT, Int.reduceGE, ↓reduceIte, decide_true, decide_false, eq_self, Nat.mul_one, Nat.zero_mul, Nat.one_mul, Int.le_refl, Nat.le_refl, Int.cast_ofNat_Int]
  ·by_cases hlt : (k : Int) < l.length
   ·obtain ⟨x, hx⟩ := get_lt hlt
    have hd := flat_at Fr.cs (n := 5) (fun _ => rfl) hx
    have hc1 : IntKind.i64.wrap (k + 1) = ((k + 1 : Nat) : Int) := by rw [wrap_in (by omega) (by omega)]; omega
    have ht := take_all frOk hx
    rw [hka, Bool.true_and] at ht
    rcases (Bool.eq_false_or_eq_true (frOk x)).symm with hok | hok
    ·have hno : frsOk l = false := by
      unfold frsOk
      rw [all_of_take (k := k + 1) (by rw [ht]; exact hok), Bool.and_false]
     simp (decide := true) (maxSteps := 4000000) only [go_sem, Nat.reduceAdd, Nat.reduceSub, Nat.reduceMul, Nat.reduceDiv, Nat.reduceMod, Nat.reduceLT, Nat.reduceLeDiff, Nat.reduceEqDiff, Nat.reduceBEq, Nat.reduceBNe, Nat.reduceGT, Int.reduceAdd, Int.reduceSub, Int.reduceMul, Int.reduceNeg, Int.reduceLT, Int.reduceLE, Int.reduceEq, Int.reduceNe, Int.reduceBEq, Int.reduceBNe, Int.reduceToNat, Int.reduceGT, Int.reduceGE, ↓reduceIte, decide_true, decide_false, eq_self, Nat.mul_one, Nat.zero_mul, Nat.one_mul, Int.le_refl, Nat.le_refl, Int.cast_ofNat_Int, hlt, hd, Fr.cs, hok]
     refine hQ1 _ _ ?_
     simp (decide := true) (maxSteps := 4000000) only [go_sem, Nat.reduceAdd, Nat.reduceSub, Nat.reduceMul, Nat.reduceDiv, Nat.reduceMod, Nat.reduceLT, Nat.reduceLeDiff, Nat.reduceEqDiff, Nat.reduceBEq, Nat.reduceBNe, Nat.reduceGT, Int.reduceAdd, Int.reduceSub, Int.reduceMul, Int.reduceNeg, Int.reduceLT, Int.reduceLE, Int.reduceEq, Int.reduceNe, Int.reduceBEq, Int.reduceBNe, Int.reduceToNat, Int.reduceGT, Int.reduceGE, ↓reduceIte, decide_true, decide_false, eq_self, Nat.mul_one, Nat.zero_mul, Nat.one_mul, Int.le_refl, Nat.le_refl, Int.cast_ofNat_Int, hno, List.length_nil]
    ·simp (decide := true) (maxSteps := 4000000) only [go_sem, Nat.reduceAdd, Nat.reduceSub, Nat.reduceMul, Nat.reduceDiv, Nat.reduceMod, Nat.reduceLT, Nat.reduceLeDiff, Nat.reduceEqDiff, Nat.reduceBEq, Nat.reduceBNe, Nat.reduceGT, Int.reduceAdd, Int.reduceSub, Int.reduceMul, Int.reduceNeg, Int.reduceLT, Int.reduceLE, Int.reduceEq, Int.reduceNe, Int.reduceBEq, Int.reduceBNe, Int.reduceToNat, Int.reduceGT, Int.reduceGE, ↓reduceIte, decide_true, decide_false, eq_self, Nat.mul_one, Nat.zero_mul, Nat.one_mul, Int.le_refl, Nat.le_refl, Int.cast_ofNat_Int, hlt, hd, Fr.cs, hok]
     refine hI1 _ ⟨k + 1, by omega, by rw [ht]; exact hok⟩ (by simp only; omega) ?_
     simp (decide := true) (maxSteps := 4000000) only [go_sem, Nat.reduceAdd, Nat.reduceSub, Nat.reduceMul, Nat.reduceDiv, Nat.reduceMod, Nat.reduceLT, Nat.reduceLeDiff, Nat.reduceEqDiff, Nat.reduceBEq, Nat.reduceBNe, Nat.reduceGT, Int.reduceAdd, Int.reduceSub, Int.reduceMul, Int.reduceNeg, Int.reduceLT, Int.reduceLE, Int.reduceEq, Int.reduceNe, Int.reduceBEq, Int.reduceBNe, Int.reduceToNat, Int.reduceGT, Int.reduceGE, ↓reduceIte, decide_true, decide_false, eq_self, Nat.mul_one, Nat.zero_mul, Nat.one_mul, Int.le_refl, Nat.le_refl, Int.cast_ofNat_Int, hc1]
   ·have hke : k = l.length := by omega
    subst hke
    rw [List.take_length] at hka
    have hok : frsOk l = true := by unfold frsOk; rw [hlen, hka]; rfl
    have hmem := (frsOk_at hok).2
    simp (decide := true) (maxSteps := 4000000) only [go_sem, Nat.reduceAdd, Nat.reduceSub, Nat.reduceMul, Nat.reduceDiv, Nat.reduceMod, Nat.reduceLT, Nat.reduceLeDiff, Nat.reduceEqDiff, Nat.reduceBEq, Nat.reduceBNe, Nat.reduceGT, Int.reduceAdd, Int.reduceSub, Int.reduceMul, Int.reduceNeg, Int.reduceLT, Int.reduceLE, Int.reduceEq, Int.reduceNe, Int.reduceBEq, Int.reduceBNe, Int.reduceToNat, Int.reduceGT, Int.reduceGE, ↓reduceIte, decide_true, decide_false, eq_self, Nat.mul_one, Nat.zero_mul, Nat.one_mul, Int.le_refl, Nat.le_refl, Int.cast_ofNat_Int, hlt]
    refine hQ1 _ _ ?_
    simp (decide := true) (maxSteps := 4000000) only [go_sem, Nat.reduceAdd, Nat.reduceSub, Nat.reduceMul, Nat.reduceDiv, Nat.reduceMod, Nat.reduceLT, Nat.reduceLeDiff, Nat.reduceEqDiff, Nat.reduceBEq, Nat.reduceBNe, Nat.reduceGT, Int.reduceAdd, Int.reduceSub, Int.reduceMul, Int.reduceNeg, Int.reduceLT, Int.reduceLE, Int.reduceEq, Int.reduceNe, Int.reduceBEq, Int.reduceBNe, Int.reduceToNat, Int.reduceGT, Int.reduceGE, ↓reduceIte, decide_true, decide_false, eq_self, Nat.mul_one, Nat.zero_mul, Nat.one_mul, Int.le_refl, Nat.le_refl, Int.cast_ofNat_Int, hok]
    refine pwpC_loopU (A := { k : Nat // k ≤ 4001 }) [0] (fun k => [(7, .t (.int .i64 ((k.1 : Int) - 2000))), (6, outVQ (surfTo l k.1))]) (fun k => outHQ (surfTo l k.1)) (fun k => 4001 - k.1) ⟨0, by omega⟩ (by decide) (fun _ => by rfl) ?_ fun Q2 hQ2 ⟨c, hc⟩ I2 hI2 => ?_
    ·have v0 : outVQ (surfTo l 0) = .t .nilSl := rfl
     have o0 : outHQ (surfTo l 0) = [] := rfl
     simp (decide := true) (maxSteps := 4000000) only [go_sem, Nat.reduceAdd, Nat.reduceSub, Nat.reduceMul, Nat.reduceDiv, Nat.reduceMod, Nat.reduceLT, Nat.reduceLeDiff, Nat.reduceEqDiff, Nat.reduceBEq, Nat.reduceBNe, Nat.reduceGT, Int.reduceAdd, Int.reduceSub, Int.reduceMul, Int.reduceNeg, Int.reduceLT, Int.reduceLE, Int.reduceEq, Int.reduceNe, Int.reduceBEq, Int.reduceBNe, Int.reduceToNat, Int.reduceGT, Int.reduceGE, ↓reduceIte, decide_true, decide_false, eq_self, Nat.mul_one, Nat.zero_mul, Nat.one_mul, Int.le_refl, Nat.le_refl, Int.cast_ofNat_Int, v0, o0]
    ·by_cases hlt : (c : Int) - 2000 ≤ 2000
     ·have hcc : IntKind.i64.wrap ((c : Int) - 2000 + 1) = ((c + 1 : Nat) : Int) - 2000 := by rw [wrap_in (by omega) (by omega)]; omega
      have hsu := surfTo_succ l c
      unfold surfStep at hsu
      rcases snoc_cases (surfTo l c) with hn | ⟨i, y, hn⟩
      ·have v0 : outVQ (surfTo l c) = .t .nilSl := by rw [hn]; rfl
       have o0 : outHQ (surfTo l c) = [] := by rw [hn]; rfl
       simp (decide := true) (maxSteps := 4000000) only [go_sem, Nat.reduceAdd, Nat.reduceSub, Nat.reduceMul, Nat.reduceDiv, Nat.reduceMod, Nat.reduceLT, Nat.reduceLeDiff, Nat.reduceEqDiff, Nat.reduceBEq, Nat.reduceBNe, Nat.reduceGT, Int.reduceAdd, Int.reduceSub, Int.reduceMul, Int.reduceNeg, Int.reduceLT, Int.reduceLE, Int.reduceEq, Int.reduceNe, Int.reduceBEq, Int.reduceBNe, Int.reduceToNat, Int.reduceGT, Int.reduceGE, ↓reduceIte, decide_true, decide_false, eq_self, Nat.mul_one, Nat.zero_mul, Nat.one_mul, Int.le_refl, Nat.le_refl, Int.cast_ofNat_Int, hlt, v0, o0]
       refine pwpC_loopU (A := { k : Nat // k ≤ l.length ∧ (l.take k).all (fun f => agB f ((c : Int) - 2000)) = true }) [0, 6, 7, 30, 31] (fun k => [(32, .t (.int .i64 k.1))]) (fun _ => []) (fun k => l.length - k.1) ⟨0, by omega, rfl⟩ (by decide) (fun _ => by rfl) ?_ fun Q3 hQ3 ⟨k, hk, hka2⟩ I3 hI3 => ?_
       ·simp (decide := true) (maxSteps := 4000000) only [go_sem, Nat.reduceAdd, Nat.reduceSub, Nat.reduceMul, Nat.reduceDiv, Nat.reduceMod, Nat.reduceLT, Nat.reduceLeDiff, Nat.reduceEqDiff, Nat.reduceBEq, Nat.reduceBNe, Nat.reduceGT, Int.reduceAdd, Int.reduceSub, Int.reduceMul, Int.reduceNeg, Int.reduceLT, Int.reduceLE, Int.reduceEq, Int.reduceNe, Int.reduceBEq, Int.reduceBNe, Int.reduceToNat, Int.reduceGT, Int.reduceGE, ↓reduceIte, decide_true, decide_false, eq_self, Nat.mul_one, Nat.zero_mul, Nat.one_mul, Int.le_refl, Nat.le_refl, Int.cast_ofNat_Int, v0, o0]
       ·by_cases hlt3 : (k : Int) < l.length
        ·obtain ⟨x, hx⟩ := get_lt hlt3
         have hd := flat_at Fr.cs (n := 5) (fun _ => rfl) hx
         have hc1 : IntKind.i64.wrap (k + 1) = ((k + 1 : Nat) : Int) := by rw [wrap_in (by omega) (by omega)]; omega
         have hok := hmem x (List.mem_of_getElem? hx)
         have ht := take_all (fun f => agB f ((c : Int) - 2000)) hx
         rw [hka2, Bool.true_and] at ht
         rcases (Bool.eq_false_or_eq_true (agB x ((c : Int) - 2000))).symm with hag | hag
         ·have hfa : frAll l ((c : Int) - 2000) = false := all_of_take (k := k + 1) (by rw [ht]; exact hag)
          rw [hfa] at hsu
          simp only [Bool.false_eq_true, if_false] at hsu
          simp (decide := true) (maxSteps := 4000000) only [go_sem, Nat.reduceAdd, Nat.reduceSub, Nat.reduceMul, Nat.reduceDiv, Nat.reduceMod, Nat.reduceLT, Nat.reduceLeDiff, Nat.reduceEqDiff, Nat.reduceBEq, Nat.reduceBNe, Nat.reduceGT, Int.reduceAdd, Int.reduceSub, Int.reduceMul, Int.reduceNeg, Int.reduceLT, Int.reduceLE, Int.reduceEq, Int.reduceNe, Int.reduceBEq, Int.reduceBNe, Int.reduceToNat, Int.reduceGT, Int.reduceGE, ↓reduceIte, decide_true, decide_false, eq_self, Nat.mul_one, Nat.zero_mul, Nat.one_mul, Int.le_refl, Nat.le_refl, Int.cast_ofNat_Int, hlt3, hd, Fr.cs, hok, hag, v0, o0]
          refine hQ3 _ _ ?_
          simp (decide := true) (maxSteps := 4000000) only [go_sem, Nat.reduceAdd, Nat.reduceSub, Nat.reduceMul, Nat.reduceDiv, Nat.reduceMod, Nat.reduceLT, Nat.reduceLeDiff, Nat.reduceEqDiff, Nat.reduceBEq, Nat.reduceBNe, Nat.reduceGT, Int.reduceAdd, Int.reduceSub, Int.reduceMul, Int.reduceNeg, Int.reduceLT, Int.reduceLE, Int.reduceEq, Int.reduceNe, Int.reduceBEq, Int.reduceBNe, Int.reduceToNat, Int.reduceGT, Int.reduceGE, ↓reduceIte, decide_true, decide_false, eq_self, Nat.mul_one, Nat.zero_mul, Nat.one_mul, Int.le_refl, Nat.le_refl, Int.cast_ofNat_Int]
          refine hI2 _ ⟨c + 1, by omega⟩ (by simp only; omega) ?_
          simp (decide := true) (maxSteps := 4000000) only [go_sem, Nat.reduceAdd, Nat.reduceSub, Nat.reduceMul, Nat.reduceDiv, Nat.reduceMod, Nat.reduceLT, Nat.reduceLeDiff, Nat.reduceEqDiff, Nat.reduceBEq, Nat.reduceBNe, Nat.reduceGT, Int.reduceAdd, Int.reduceSub, Int.reduceMul, Int.reduceNeg, Int.reduceLT, Int.reduceLE, Int.reduceEq, Int.reduceNe, Int.reduceBEq, Int.reduceBNe, Int.reduceToNat, Int.reduceGT, Int.reduceGE, ↓reduceIte, decide_true, decide_false, eq_self, Nat.mul_one, Nat.zero_mul, Nat.one_mul, Int.le_refl, Nat.le_refl, Int.cast_ofNat_Int, hcc, hsu, v0, o0]
         ·simp (decide := true) (maxSteps := 4000000) only [go_sem, Nat.reduceAdd, Nat.reduceSub, Nat.reduceMul, Nat.reduceDiv, Nat.reduceMod, Nat.reduceLT, Nat.reduceLeDiff, Nat.reduceEqDiff, Nat.reduceBEq, Nat.reduceBNe, Nat.reduceGT, Int.reduceAdd, Int.reduceSub, Int.reduceMul, Int.reduceNeg, Int.reduceLT, Int.reduceLE, Int.reduceEq, Int.reduceNe, Int.reduceBEq, Int.reduceBNe, Int.reduceToNat, Int.reduceGT, Int.reduceGE, ↓reduceIte, decide_true, decide_false, eq_self, Nat.mul_one, Nat.zero_mul, Nat.one_mul, Int.le_refl, Nat.le_refl, Int.cast_ofNat_Int, hlt3, hd, Fr.cs, hok, hag, v0, o0]
          refine hI3 _ ⟨k + 1, by omega, by rw [ht]; exact hag⟩ (by simp only; omega) ?_
          simp (decide := true) (maxSteps := 4000000) only [go_sem, Nat.reduceAdd, Nat.reduceSub, Nat.reduceMul, Nat.reduceDiv, Nat.reduceMod, Nat.reduceLT, Nat.reduceLeDiff, Nat.reduceEqDiff, Nat.reduceBEq, Nat.reduceBNe, Nat.reduceGT, Int.reduceAdd, Int.reduceSub, Int.reduceMul, Int.reduceNeg, Int.reduceLT, Int.reduceLE, Int.reduceEq, Int.reduceNe, Int.reduceBEq, Int.reduceBNe, Int.reduceToNat, Int.reduceGT, Int.reduceGE, ↓reduceIte, decide_true, decide_false, eq_self, Nat.mul_one, Nat.zero_mul, Nat.one_mul, Int.le_refl, Nat.le_refl, Int.cast_ofNat_Int, hc1, v0, o0]
        ·have hke : k = l.length := by omega
         subst hke
         rw [List.take_length] at hka2
         have hfa : frAll l ((c : Int) - 2000) = true := hka2
         rw [hfa] at hsu
         simp only [if_true] at hsu
         simp (decide := true) (maxSteps := 4000000) only [go_sem, Nat.reduceAdd, Nat.reduceSub, Nat.reduceMul, Nat.reduceDiv, Nat.reduceMod, Nat.reduceLT, Nat.reduceLeDiff, Nat.reduceEqDiff, Nat.reduceBEq, Nat.reduceBNe, Nat.reduceGT, Int.reduceAdd, Int.reduceSub, Int.reduceMul, Int.reduceNeg, Int.reduceLT, Int.reduceLE, Int.reduceEq, Int.reduceNe, Int.reduceBEq, Int.reduceBNe, Int.reduceToNat, Int.reduceGT, Int.reduceGE, ↓reduceIte, decide_true, decide_false, eq_self, Nat.mul_one, Nat.zero_mul, Nat.one_mul, Int.le_refl, Nat.le_refl, Int.cast_ofNat_Int, hlt3, v0, o0]
         refine hQ3 _ _ ?_
         rw [hn] at hsu
         simp only [List.getLast?_nil] at hsu
         have v1 : outVQ (surfTo l (c + 1)) = .gsl 1 0 2 0 1 false := by rw [hsu]; rfl
         have o1 : outHQ (surfTo l (c + 1)) = [(0, .grow 0 [.junk, .junk] 41 2), (1, .grow 0 [.t (.int .i64 ((c : Int) - 2000)), .t (.int .i64 ((c : Int) - 2000))] 41 2)] := by rw [hsu]; rfl
         simp (decide := true) (maxSteps := 4000000) only [go_sem, Nat.reduceAdd, Nat.reduceSub, Nat.reduceMul, Nat.reduceDiv, Nat.reduceMod, Nat.reduceLT, Nat.reduceLeDiff, Nat.reduceEqDiff, Nat.reduceBEq, Nat.reduceBNe, Nat.reduceGT, Int.reduceAdd, Int.reduceSub, Int.reduceMul, Int.reduceNeg, Int.reduceLT, Int.reduceLE, Int.reduceEq, Int.reduceNe, Int.reduceBEq, Int.reduceBNe, Int.reduceToNat, Int.reduceGT, Int.reduceGE, ↓reduceIte, decide_true, decide_false, eq_self, Nat.mul_one, Nat.zero_mul, Nat.one_mul, Int.le_refl, Nat.le_refl, Int.cast_ofNat_Int, v0, o0]
         refine hI2 _ ⟨c + 1, by omega⟩ (by simp only; omega) ?_
         simp (decide := true) (maxSteps := 4000000) only [go_sem, Nat.reduceAdd, Nat.reduceSub, Nat.reduceMul, Nat.reduceDiv, Nat.reduceMod, Nat.reduceLT, Nat.reduceLeDiff, Nat.reduceEqDiff, Nat.reduceBEq, Nat.reduceBNe, Nat.reduceGT, Int.reduceAdd, Int.reduceSub, Int.reduceMul, Int.reduceNeg, Int.reduceLT, Int.reduceLE, Int.reduceEq, Int.reduceNe, Int.reduceBEq, Int.reduceBNe, Int.reduceToNat, Int.reduceGT, Int.reduceGE, ↓reduceIte, decide_true, decide_false, eq_self, Nat.mul_one, Nat.zero_mul, Nat.one_mul, Int.le_refl, Nat.le_refl, Int.cast_ofNat_Int, hcc, v1, o1]
      ·obtain ⟨m, hm⟩ : ∃ m, i.length = m := ⟨_, rfl⟩
       have hml := surf_len l c
       rw [hn, List.length_append, hm, List.length_cons, List.length_nil] at hml
       have v0 : outVQ (surfTo l c) = .gsl 1 m 2 0 (m + 1) false := by rw [hn]; unfold outVQ; simp [hm]
       have o0 : outHQ (surfTo l c) = [(0, .grow 0 [.junk, .junk] 41 2), (1, .grow m (((i.flatMap Span.cs).map .t) ++ [.t (.int .i64 y.lo), .t (.int .i64 y.hi)]) 41 2)] := by rw [hn]; unfold outHQ; simp [hm, Span.cs]
       have hcw : ∀ L : List PO, cellsW L ((i.flatMap Span.cs).map PV.t ++ [PV.t (.int .i64 y.lo), PV.t (.int .i64 y.hi)]) ((i.flatMap Span.cs).map PV.t ++ [PV.t (.int .i64 y.lo), PV.t (.int .i64 y.hi)]) = True := fun L => eq_true (by
        have := cellsW_ttQ L (i.flatMap Span.cs ++ [.int .i64 y.lo, .int .i64 y.hi])
        simpa using this)
       have hun2 : ((i.flatMap Span.cs).map PV.t ++ [PV.t (.int .i64 y.lo), PV.t (.int .i64 ((c : Int) - 2000))]).all (PV.under 2) = true := by simp [PV.under]
       have hcw2 : ∀ L : List PO, cellsW L ((i.flatMap Span.cs).map PV.t ++ [PV.t (.int .i64 y.lo), PV.t (.int .i64 ((c : Int) - 2000))]) ((i.flatMap Span.cs).map PV.t ++ [PV.t (.int .i64 y.lo), PV.t (.int .i64 ((c : Int) - 2000))]) = True := fun L => eq_true (by
        have := cellsW_ttQ L (i.flatMap Span.cs ++ [.int .i64 y.lo, .int .i64 ((c : Int) - 2000)])
        simpa using this)
       have hun3 : ((i.flatMap Span.cs).map PV.t ++ [PV.t (.int .i64 y.lo), PV.t (.int .i64 y.hi)] ++ [PV.t (.int .i64 ((c : Int) - 2000)), PV.t (.int .i64 ((c : Int) - 2000))]).all (PV.under 2) = true := by simp [PV.under]
       have hcw3 : ∀ L : List PO, cellsW L ((i.flatMap Span.cs).map PV.t ++ [PV.t (.int .i64 y.lo), PV.t (.int .i64 y.hi)] ++ [PV.t (.int .i64 ((c : Int) - 2000)), PV.t (.int .i64 ((c : Int) - 2000))]) ((i.flatMap Span.cs).map PV.t ++ [PV.t (.int .i64 y.lo), PV.t (.int .i64 y.hi)] ++ [PV.t (.int .i64 ((c : Int) - 2000)), PV.t (.int .i64 ((c : Int) - 2000))]) = True := fun L => eq_true (by
        have := cellsW_ttQ L (i.flatMap Span.cs ++ [.int .i64 y.lo, .int .i64 y.hi] ++ [.int .i64 ((c : Int) - 2000), .int .i64 ((c : Int) - 2000)])
        simpa using this)
       obtain ⟨q1, q2, q3⟩ := surf_cellsQ i y ((c : Int) - 2000) hm
       have wm : IntKind.i64.wrap (((m + 1 : Nat) : Int) - 1) = (m : Int) := by rw [wrap_in (by omega) (by omega)]; omega
       have m0 : (0 : Int) ≤ m := by omega
       have m1 : (m : Int) < ((m + 1 : Nat) : Int) := by omega
       have m2 : ((m + 1 : Nat) : Int) > 0 := by omega
       have hle : m * 2 + 1 + 1 ≤ (m + 1) * 2 := by omega
       have hroom : (m + 1 + 1) * 16 ≤ 140737488355328 := by omega
       have wc : IntKind.i64.wrap ((c : Int) - 2000 - 1) = (c : Int) - 2000 - 1 := wrap_in (by omega) (by omega)
       have hun : ((i.flatMap Span.cs).map PV.t ++ [PV.t (.int .i64 y.lo), PV.t (.int .i64 y.hi)]).all (PV.under 2) = true := by simp [PV.under]
       simp (decide := true) (maxSteps := 4000000) only [go_sem, Nat.reduceAdd, Nat.reduceSub, Nat.reduceMul, Nat.reduceDiv, Nat.reduceMod, Nat.reduceLT, Nat.reduceLeDiff, Nat.reduceEqDiff, Nat.reduceBEq, Nat.reduceBNe, Nat.reduceGT, Int.reduceAdd, Int.reduceSub, Int.reduceMul, Int.reduceNeg, Int.reduceLT, Int.reduceLE, Int.reduceEq, Int.reduceNe, Int.reduceBEq, Int.reduceBNe, Int.reduceToNat, Int.reduceGT, Int.reduceGE, ↓reduceIte, decide_true, decide_false, eq_self, Nat.mul_one, Nat.zero_mul, Nat.one_mul, Int.le_refl, Nat.le_refl, Int.cast_ofNat_Int, hlt, v0, o0, hun, hcw]
       refine pwpC_loopU (A := { k : Nat // k ≤ l.length ∧ (l.take k).all (fun f => agB f ((c : Int) - 2000)) = true }) [0, 6, 7, 30, 31] (fun k => [(32, .t (.int .i64 k.1))]) (fun _ => []) (fun k => l.length - k.1) ⟨0, by omega, rfl⟩ (by decide) (fun _ => by rfl) ?_ fun Q3 hQ3 ⟨k, hk, hka2⟩ I3 hI3 => ?_
       ·simp (decide := true) (maxSteps := 4000000) only [go_sem, Nat.reduceAdd, Nat.reduceSub, Nat.reduceMul, Nat.reduceDiv, Nat.reduceMod, Nat.reduceLT, Nat.reduceLeDiff, Nat.reduceEqDiff, Nat.reduceBEq, Nat.reduceBNe, Nat.reduceGT, Int.reduceAdd, Int.reduceSub, Int.reduceMul, Int.reduceNeg, Int.reduceLT, Int.reduceLE, Int.reduceEq, Int.reduceNe, Int.reduceBEq, Int.reduceBNe, Int.reduceToNat, Int.reduceGT, Int.reduceGE, ↓reduceIte, decide_true, decide_false, eq_self, Nat.mul_one, Nat.zero_mul, Nat.one_mul, Int.le_refl, Nat.le_refl, Int.cast_ofNat_Int, v0, o0, hun, hcw]
       ·by_cases hlt3 : (k : Int) < l.length
        ·obtain ⟨x, hx⟩ := get_lt hlt3
         have hd := flat_at Fr.cs (n := 5) (fun _ => rfl) hx
         have hc1 : IntKind.i64.wrap (k + 1) = ((k + 1 : Nat) : Int) := by rw [wrap_in (by omega) (by omega)]; omega
         have hok := hmem x (List.mem_of_getElem? hx)
         have ht := take_all (fun f => agB f ((c : Int) - 2000)) hx
         rw [hka2, Bool.true_and] at ht
         rcases (Bool.eq_false_or_eq_true (agB x ((c : Int) - 2000))).symm with hag | hag
         ·have hfa : frAll l ((c : Int) - 2000) = false := all_of_take (k := k + 1) (by rw [ht]; exact hag)
          rw [hfa] at hsu
          simp only [Bool.false_eq_true, if_false] at hsu
          simp (decide := true) (maxSteps := 4000000) only [go_sem, Nat.reduceAdd, Nat.reduceSub, Nat.reduceMul, Nat.reduceDiv, Nat.reduceMod, Nat.reduceLT, Nat.reduceLeDiff, Nat.reduceEqDiff, Nat.reduceBEq, Nat.reduceBNe, Nat.reduceGT, Int.reduceAdd, Int.reduceSub, Int.reduceMul, Int.reduceNeg, Int.reduceLT, Int.reduceLE, Int.reduceEq, Int.reduceNe, Int.reduceBEq, Int.reduceBNe, Int.reduceToNat, Int.reduceGT, Int.reduceGE, ↓reduceIte, decide_true, decide_false, eq_self, Nat.mul_one, Nat.zero_mul, Nat.one_mul, Int.le_refl, Nat.le_refl, Int.cast_ofNat_Int, hlt3, hd, Fr.cs, hok, hag, v0, o0, hun, hcw]
          refine hQ3 _ _ ?_
          simp (decide := true) (maxSteps := 4000000) only [go_sem, Nat.reduceAdd, Nat.reduceSub, Nat.reduceMul, Nat.reduceDiv, Nat.reduceMod, Nat.reduceLT, Nat.reduceLeDiff, Nat.reduceEqDiff, Nat.reduceBEq, Nat.reduceBNe, Nat.reduceGT, Int.reduceAdd, Int.reduceSub, Int.reduceMul, Int.reduceNeg, Int.reduceLT, Int.reduceLE, Int.reduceEq, Int.reduceNe, Int.reduceBEq, Int.reduceBNe, Int.reduceToNat, Int.reduceGT, Int.reduceGE, ↓reduceIte, decide_true, decide_false, eq_self, Nat.mul_one, Nat.zero_mul, Nat.one_mul, Int.le_refl, Nat.le_refl, Int.cast_ofNat_Int]
          refine hI2 _ ⟨c + 1, by omega⟩ (by simp only; omega) ?_
          simp (decide := true) (maxSteps := 4000000) only [go_sem, Nat.reduceAdd, Nat.reduceSub, Nat.reduceMul, Nat.reduceDiv, Nat.reduceMod, Nat.reduceLT, Nat.reduceLeDiff, Nat.reduceEqDiff, Nat.reduceBEq, Nat.reduceBNe, Nat.reduceGT, Int.reduceAdd, Int.reduceSub, Int.reduceMul, Int.reduceNeg, Int.reduceLT, Int.reduceLE, Int.reduceEq, Int.reduceNe, Int.reduceBEq, Int.reduceBNe, Int.reduceToNat, Int.reduceGT, Int.reduceGE, ↓reduceIte, decide_true, decide_false, eq_self, Nat.mul_one, Nat.zero_mul, Nat.one_mul, Int.le_refl, Nat.le_refl, Int.cast_ofNat_Int, hcc, hsu, v0, o0, hun, hcw]
         ·simp (decide := true) (maxSteps := 4000000) only [go_sem, Nat.reduceAdd, Nat.reduceSub, Nat.reduceMul, Nat.reduceDiv, Nat.reduceMod, Nat.reduceLT, Nat.reduceLeDiff, Nat.reduceEqDiff, Nat.reduceBEq, Nat.reduceBNe, Nat.reduceGT, Int.reduceAdd, Int.reduceSub, Int.reduceMul, Int.reduceNeg, Int.reduceLT, Int.reduceLE, Int.reduceEq, Int.reduceNe, Int.reduceBEq, Int.reduceBNe, Int.reduceToNat, Int.reduceGT, Int.reduceGE, ↓reduceIte, decide_true, decide_false, eq_self, Nat.mul_one, Nat.zero_mul, Nat.one_mul, Int.le_refl, Nat.le_refl, Int.cast_ofNat_Int, hlt3, hd, Fr.cs, hok, hag, v0, o0, hun, hcw]
          refine hI3 _ ⟨k + 1, by omega, by rw [ht]; exact hag⟩ (by simp only; omega) ?_
          simp (decide := true) (maxSteps := 4000000) only [go_sem, Nat.reduceAdd, Nat.reduceSub, Nat.reduceMul, Nat.reduceDiv, Nat.reduceMod, Nat.reduceLT, Nat.reduceLeDiff, Nat.reduceEqDiff, Nat.reduceBEq, Nat.reduceBNe, Nat.reduceGT, Int.reduceAdd, Int.reduceSub, Int.reduceMul, Int.reduceNeg, Int.reduceLT, Int.reduceLE, Int.reduceEq, Int.reduceNe, Int.reduceBEq, Int.reduceBNe, Int.reduceToNat, Int.reduceGT, Int.reduceGE, ↓reduceIte, decide_true, decide_false, eq_self, Nat.mul_one, Nat.zero_mul, Nat.one_mul, Int.le_refl, Nat.le_refl, Int.cast_ofNat_Int, hc1, v0, o0, hun, hcw]
        ·have hke : k = l.length := by omega
         subst hke
         rw [List.take_length] at hka2
         have hfa : frAll l ((c : Int) - 2000) = true := hka2
         rw [hfa] at hsu
         simp only [if_true] at hsu
         simp (decide := true) (maxSteps := 4000000) only [go_sem, Nat.reduceAdd, Nat.reduceSub, Nat.reduceMul, Nat.reduceDiv, Nat.reduceMod, Nat.reduceLT, Nat.reduceLeDiff, Nat.reduceEqDiff, Nat.reduceBEq, Nat.reduceBNe, Nat.reduceGT, Int.reduceAdd, Int.reduceSub, Int.reduceMul, Int.reduceNeg, Int.reduceLT, Int.reduceLE, Int.reduceEq, Int.reduceNe, Int.reduceBEq, Int.reduceBNe, Int.reduceToNat, Int.reduceGT, Int.reduceGE, ↓reduceIte, decide_true, decide_false, eq_self, Nat.mul_one, Nat.zero_mul, Nat.one_mul, Int.le_refl, Nat.le_refl, Int.cast_ofNat_Int, hlt3, v0, o0, hun, hcw]
         refine hQ3 _ _ ?_
         rw [hn, List.getLast?_append] at hsu
         simp only [List.getLast?_singleton, Option.some_or] at hsu
         by_cases hy : y.hi = (c : Int) - 2000 - 1
         ·have hy' : (y.hi == (c : Int) - 2000 - 1) = true := beq_int_t hy
          rw [if_pos hy, List.dropLast_concat] at hsu
          have v1 : outVQ (surfTo l (c + 1)) = .gsl 1 m 2 0 (m + 1) false := by rw [hsu]; unfold outVQ; simp [hm]
          have o1 : outHQ (surfTo l (c + 1)) = [(0, .grow 0 [.junk, .junk] 41 2), (1, .grow m (((i.flatMap Span.cs).map .t) ++ [.t (.int .i64 y.lo), .t (.int .i64 ((c : Int) - 2000))]) 41 2)] := by rw [hsu]; unfold outHQ; simp [hm, Span.cs]
          simp (decide := true) (maxSteps := 4000000) only [go_sem, Nat.reduceAdd, Nat.reduceSub, Nat.reduceMul, Nat.reduceDiv, Nat.reduceMod, Nat.reduceLT, Nat.reduceLeDiff, Nat.reduceEqDiff, Nat.reduceBEq, Nat.reduceBNe, Nat.reduceGT, Int.reduceAdd, Int.reduceSub, Int.reduceMul, Int.reduceNeg, Int.reduceLT, Int.reduceLE, Int.reduceEq, Int.reduceNe, Int.reduceBEq, Int.reduceBNe, Int.reduceToNat, Int.reduceGT, Int.reduceGE, ↓reduceIte, decide_true, decide_false, eq_self, Nat.mul_one, Nat.zero_mul, Nat.one_mul, Int.le_refl, Nat.le_refl, Int.cast_ofNat_Int, v0, o0, wm, m0, m1, m2, wc, q1, q2, q3, hle, hroom, hy', Int.toNat_natCast]
          refine hI2 _ ⟨c + 1, by omega⟩ (by simp only; omega) ?_
          simp (decide := true) (maxSteps := 4000000) only [go_sem, Nat.reduceAdd, Nat.reduceSub, Nat.reduceMul, Nat.reduceDiv, Nat.reduceMod, Nat.reduceLT, Nat.reduceLeDiff, Nat.reduceEqDiff, Nat.reduceBEq, Nat.reduceBNe, Nat.reduceGT, Int.reduceAdd, Int.reduceSub, Int.reduceMul, Int.reduceNeg, Int.reduceLT, Int.reduceLE, Int.reduceEq, Int.reduceNe, Int.reduceBEq, Int.reduceBNe, Int.reduceToNat, Int.reduceGT, Int.reduceGE, ↓reduceIte, decide_true, decide_false, eq_self, Nat.mul_one, Nat.zero_mul, Nat.one_mul, Int.le_refl, Nat.le_refl, Int.cast_ofNat_Int, hcc, v1, o1, hun2, hcw2]
         ·have hy' : (y.hi == (c : Int) - 2000 - 1) = false := beq_int_f hy
          rw [if_neg hy] at hsu
          have v1 : outVQ (surfTo l (c + 1)) = .gsl 1 (m + 1) 2 0 (m + 1 + 1) false := by rw [hsu]; unfold outVQ; simp [hm]
          have o1 : outHQ (surfTo l (c + 1)) = [(0, .grow 0 [.junk, .junk] 41 2), (1, .grow (m + 1) (((i.flatMap Span.cs).map .t) ++ [.t (.int .i64 y.lo), .t (.int .i64 y.hi)] ++ [.t (.int .i64 ((c : Int) - 2000)), .t (.int .i64 ((c : Int) - 2000))]) 41 2)] := by rw [hsu]; unfold outHQ; simp [hm, Span.cs]
          simp (decide := true) (maxSteps := 4000000) only [go_sem, Nat.reduceAdd, Nat.reduceSub, Nat.reduceMul, Nat.reduceDiv, Nat.reduceMod, Nat.reduceLT, Nat.reduceLeDiff, Nat.reduceEqDiff, Nat.reduceBEq, Nat.reduceBNe, Nat.reduceGT, Int.reduceAdd, Int.reduceSub, Int.reduceMul, Int.reduceNeg, Int.reduceLT, Int.reduceLE, Int.reduceEq, Int.reduceNe, Int.reduceBEq, Int.reduceBNe, Int.reduceToNat, Int.reduceGT, Int.reduceGE, ↓reduceIte, decide_true, decide_false, eq_self, Nat.mul_one, Nat.zero_mul, Nat.one_mul, Int.le_refl, Nat.le_refl, Int.cast_ofNat_Int, v0, o0, wm, m0, m1, m2, wc, q1, q2, q3, hle, hroom, hy', Int.toNat_natCast]
          refine hI2 _ ⟨c + 1, by omega⟩ (by simp only; omega) ?_
          simp (decide := true) (maxSteps := 4000000) only [go_sem, Nat.reduceAdd, Nat.reduceSub, Nat.reduceMul, Nat.reduceDiv, Nat.reduceMod, Nat.reduceLT, Nat.reduceLeDiff, Nat.reduceEqDiff, Nat.reduceBEq, Nat.reduceBNe, Nat.reduceGT, Int.reduceAdd, Int.reduceSub, Int.reduceMul, Int.reduceNeg, Int.reduceLT, Int.reduceLE, Int.reduceEq, Int.reduceNe, Int.reduceBEq, Int.reduceBNe, Int.reduceToNat, Int.reduceGT, Int.reduceGE, ↓reduceIte, decide_true, decide_false, eq_self, Nat.mul_one, Nat.zero_mul, Nat.one_mul, Int.le_refl, Nat.le_refl, Int.cast_ofNat_Int, hcc, v1, o1, hun3, hcw3]
     ·have hce : c = 4001 := by omega
      subst hce
      simp (decide := true) (maxSteps := 4000000) only [go_sem, Nat.reduceAdd, Nat.reduceSub, Nat.reduceMul, Nat.reduceDiv, Nat.reduceMod, Nat.reduceLT, Nat.reduceLeDiff, Nat.reduceEqDiff, Nat.reduceBEq, Nat.reduceBNe, Nat.reduceGT, Int.reduceAdd, Int.reduceSub, Int.reduceMul, Int.reduceNeg, Int.reduceLT, Int.reduceLE, Int.reduceEq, Int.reduceNe, Int.reduceBEq, Int.reduceBNe, Int.reduceToNat, Int.reduceGT, Int.reduceGE, ↓reduceIte, decide_true, decide_false, eq_self, Nat.mul_one, Nat.zero_mul, Nat.one_mul, Int.le_refl, Nat.le_refl, Int.cast_ofNat_Int, hlt]
      refine hQ2 _ _ ?_
      rcases snoc_cases (surfTo l 4001) with hn | ⟨i, y, hn⟩
      ·have v0 : outVQ (surfTo l 4001) = .t .nilSl := by rw [hn]; rfl
       have o0 : outHQ (surfTo l 4001) = [] := by rw [hn]; rfl
       have hne : (surfTo l 4001 = []) = True := eq_true hn
       simp (decide := true) (maxSteps := 4000000) only [go_sem, Nat.reduceAdd, Nat.reduceSub, Nat.reduceMul, Nat.reduceDiv, Nat.reduceMod, Nat.reduceLT, Nat.reduceLeDiff, Nat.reduceEqDiff, Nat.reduceBEq, Nat.reduceBNe, Nat.reduceGT, Int.reduceAdd, Int.reduceSub, Int.reduceMul, Int.reduceNeg, Int.reduceLT, Int.reduceLE, Int.reduceEq, Int.reduceNe, Int.reduceBEq, Int.reduceBNe, Int.reduceToNat, Int.reduceGT, Int.reduceGE, ↓reduceIte, decide_true, decide_false, eq_self, Nat.mul_one, Nat.zero_mul, Nat.one_mul, Int.le_refl, Nat.le_refl, Int.cast_ofNat_Int, v0, o0, hne, List.length_nil]
      ·obtain ⟨m, hm⟩ : ∃ m, i.length = m := ⟨_, rfl⟩
       have v0 : outVQ (surfTo l 4001) = .gsl 1 m 2 0 (m + 1) false := by rw [hn]; unfold outVQ; simp [hm]
       have o0 : outHQ (surfTo l 4001) = [(0, .grow 0 [.junk, .junk] 41 2), (1, .grow m (((i.flatMap Span.cs).map .t) ++ [.t (.int .i64 y.lo), .t (.int .i64 y.hi)]) 41 2)] := by rw [hn]; unfold outHQ; simp [hm, Span.cs]
       have hne : ¬ surfTo l 4001 = [] := by rw [hn]; simp
       have hll : (surfTo l 4001).length = m + 1 := by rw [hn]; simp [hm]
       have m0 : ¬ m + 1 = 0 := by omega
       have m1 : (0 : Int) ≤ ((m + 1 : Nat) : Int) := by omega
       have hids : ((i.flatMap Span.cs).map PV.t ++ [PV.t (.int .i64 y.lo), PV.t (.int .i64 y.hi)]).flatMap idsG = [] := by
        have := idsG_ttQ (i.flatMap Span.cs ++ [.int .i64 y.lo, .int .i64 y.hi])
        simpa using this
       have hth : ∀ h : Hp, allO (((i.flatMap Span.cs).map PV.t ++ [PV.t (.int .i64 y.lo), PV.t (.int .i64 y.hi)]).map (thawC h)) = some ((surfTo l 4001).flatMap Span.cs) := by
        intro h
        have := thawC_ttQ h (i.flatMap Span.cs ++ [.int .i64 y.lo, .int .i64 y.hi])
        rw [hn]
        simpa [Span.cs] using this
       have hfl : ((surfTo l 4001).flatMap Span.cs).length = (m + 1) * 2 := by rw [flat_len Span.cs (n := 2) (fun _ => rfl), hll]
       have htk : ((surfTo l 4001).flatMap Span.cs).take ((m + 1) * 2) = (surfTo l 4001).flatMap Span.cs := List.take_of_length_le (by omega)
       have hall : allO (((i.flatMap Span.cs).map PV.t ++ [PV.t (.int .i64 y.lo), PV.t (.int .i64 y.hi)]).map PV.toT) = some ((surfTo l 4001).flatMap Span.cs) := by
        have := allO_t (i.flatMap Span.cs ++ [.int .i64 y.lo, .int .i64 y.hi])
        rw [hn]
        simpa [Span.cs] using this
       simp (decide := true) (maxSteps := 4000000) only [go_sem, Nat.reduceAdd, Nat.reduceSub, Nat.reduceMul, Nat.reduceDiv, Nat.reduceMod, Nat.reduceLT, Nat.reduceLeDiff, Nat.reduceEqDiff, Nat.reduceBEq, Nat.reduceBNe, Nat.reduceGT, Int.reduceAdd, Int.reduceSub, Int.reduceMul, Int.reduceNeg, Int.reduceLT, Int.reduceLE, Int.reduceEq, Int.reduceNe, Int.reduceBEq, Int.reduceBNe, Int.reduceToNat, Int.reduceGT, Int.reduceGE, ↓reduceIte, decide_true, decide_false, eq_self, Nat.mul_one, Nat.zero_mul, Nat.one_mul, Int.le_refl, Nat.le_refl, Int.cast_ofNat_Int, hids, hall, hth, hfl, htk, thawA, List.drop_zero, Nat.zero_add, List.foldl_nil, List.foldl_cons, v0, o0, hne, hll, m0, m1, Int.toNat_natCast, Nat.sub_zero, sliceG, Option.isSome_some, freezeW, freezeO, closedG, seenF, wr, upo]
end Gs
end Go.Proofs.YtlonlnfenbadbaaDoor
